/-
  SEVERAL SMALL TEXTS IN ONE.
-/
import Derived.Test.YtgmgghbocidibaaGreatDoorSm1
import Derived.Deep.LoopGhost
import Derived.Test.YtgmgghbocidibaaGreatDoorSm0
import Derived.Test.YtgmgghbocidibaaGreatDoorSm4
import Derived.Deep.MidRow
/-
  storehouseref15: right, Right, alike, Same; storehouseref22.Known.
-/
namespace Go.Proofs.YtgmgghbocidibaaGreatDoor
open Go.RowKit Go.PlainAid

mutual
theorem Tree.ind {P : Tree → Prop} (h : ∀ n t ks, (∀ k ∈ ks, P k) → P (.node n t ks)) : ∀ t, P t
  | .node n t ks => h n t ks (Tree.inds h ks)
theorem Tree.inds {P : Tree → Prop} (h : ∀ n t ks, (∀ k ∈ ks, P k) → P (.node n t ks)) : ∀ ks : List Tree, ∀ k ∈ ks, P k
  | [], _, hk => by cases hk
  | x :: ks, k, hk => (List.mem_cons.1 hk).elim (fun e => e ▸ Tree.ind h x) (fun hk => Tree.inds h ks k hk)
end

/-- the bytes of a name from i on -/
def nameTo (s : ByteArray) : Nat → Nat → Bool
  | 0, _ => true
  | f + 1, i => if s.size ≤ i then true else moreB (bt s i) && nameTo s f (i + 1)
def nameB (s : ByteArray) : Bool := firstB (bt s 0) && nameTo s s.size 1

mutual
/-- is an element right, with so many around it; how many may still come -/
def rightV : Tree → Int → Int → Bool × Int
  | .node n t ks, ar, lf =>
    if 20 ≤ ar ∨ lf < 1 ∨ n.toList = [] ∨ 100 < n.size ∨ (0 < ks.length ∧ ¬ t.toList = []) then (false, lf - 1)
    else if nameB n && plainB t then rightKids ks (ar + 1) (lf - 1) else (false, lf - 1)
def rightKids : List Tree → Int → Int → Bool × Int
  | [], _, lf => (true, lf)
  | k :: ks, ar, lf => if (rightV k ar lf).1 then rightKids ks ar (rightV k ar lf).2 else (false, (rightV k ar lf).2)
end

theorem rightV_bd : ∀ (t : Tree) (ar lf : Int), 0 ≤ lf → -1 ≤ (rightV t ar lf).2 ∧ (rightV t ar lf).2 ≤ lf ∧ ((rightV t ar lf).1 = true → 0 ≤ (rightV t ar lf).2) := by
  apply Tree.ind
  intro n t ks ih ar lf h0
  have hk : ∀ (ks' : List Tree) (lf : Int), (∀ k ∈ ks', k ∈ ks) → 0 ≤ lf → -1 ≤ (rightKids ks' (ar + 1) lf).2 ∧ (rightKids ks' (ar + 1) lf).2 ≤ lf ∧ ((rightKids ks' (ar + 1) lf).1 = true → 0 ≤ (rightKids ks' (ar + 1) lf).2) := by
    intro ks'
    induction ks' with
    | nil => intro lf _ h; simp only [rightKids]; exact ⟨by omega, by omega, fun _ => h⟩
    | cons k ks' ihk =>
      intro lf hm h
      obtain ⟨h1, h2, h3⟩ := ih k (hm k (by simp)) (ar + 1) lf h
      simp only [rightKids]
      split
      · rename_i c
        obtain ⟨h4, h5, h6⟩ := ihk (rightV k (ar + 1) lf).2 (fun x hx => hm x (by simp [hx])) (h3 c)
        exact ⟨h4, by omega, h6⟩
      · exact ⟨h1, h2, fun h => by simp at h⟩
  simp only [rightV]
  split
  · simp only; exact ⟨by omega, by omega, fun h => by simp at h⟩
  · split
    · obtain ⟨h1, h2, h3⟩ := hk ks (lf - 1) (fun _ h => h) (by omega)
      exact ⟨h1, by omega, h3⟩
    · simp only; exact ⟨by omega, by omega, fun h => by simp at h⟩

theorem rightKids_at {ks : List Tree} {i : Nat} {k : Tree} (h : ks[i]? = some k) (ar lf : Int) :
    rightKids (ks.drop i) ar lf = if (rightV k ar lf).1 then rightKids (ks.drop (i + 1)) ar (rightV k ar lf).2 else (false, (rightV k ar lf).2) := by
  obtain ⟨hlt, he⟩ := List.getElem?_eq_some_iff.1 h
  rw [List.drop_eq_getElem_cons hlt, he]
  simp only [rightKids]

abbrev elemV' (t : Tree) (a : Option Addr) (c : Nat) : Value := .agg #[.string t.name, .string t.text, .slice a t.kids.length c]

set_option maxHeartbeats 4000000 in
set_option maxRecDepth 100000 in
theorem right_no (n tx : ByteArray) (a : Option Addr) (len c : Nat) (ar lf : Int) (w : World) (_hlen : len ≤ 2513169434843) (_h0 : 0 ≤ ar) (_h1 : ar ≤ 20) (h2 : 0 ≤ lf) (h3 : lf ≤ 20000) (h4 : n.size ≤ maxRead) (_h5 : tx.size ≤ maxRead)
    (h : 20 ≤ ar ∨ lf < 1 ∨ n.toList = [] ∨ 100 < n.size ∨ (0 < len ∧ ¬ tx.toList = [])) :
    Calls Tryz.prog 35 #[.agg #[.string n, .string tx, .slice a len c], .int .i64 ar, .int .i64 lf] w fun e w' => e = .returned (.tuple #[.bool false, .int .i64 (lf - 1)]) ∧ Below w.heap.size w w' := by
  unfold maxRead at *
  by_cases a1 : 20 ≤ ar
  · clear h
    go_enter Tryz.func35, Tryz.ntmps35
    go_wp2
    go_ret2
    exact ⟨rfl, (by repeat (first | exact Below.refl _ _ | assumption | (refine below_drewN ?_ _) | (refine Below.alloc ?_ (by first | (simp; done) | (simp; omega) | omega) _) | (refine Below.setCell ?_ (by first | (simp; done) | (simp; omega) | omega) _)))⟩
  by_cases a2 : lf < 1
  · clear h
    go_enter Tryz.func35, Tryz.ntmps35
    go_wp2
    go_ret2
    exact ⟨rfl, (by repeat (first | exact Below.refl _ _ | assumption | (refine below_drewN ?_ _) | (refine Below.alloc ?_ (by first | (simp; done) | (simp; omega) | omega) _) | (refine Below.setCell ?_ (by first | (simp; done) | (simp; omega) | omega) _)))⟩
  by_cases a3 : n.toList = []
  · clear h
    go_enter Tryz.func35, Tryz.ntmps35
    go_wp2
    go_ret2
    exact ⟨rfl, (by repeat (first | exact Below.refl _ _ | assumption | (refine below_drewN ?_ _) | (refine Below.alloc ?_ (by first | (simp; done) | (simp; omega) | omega) _) | (refine Below.setCell ?_ (by first | (simp; done) | (simp; omega) | omega) _)))⟩
  have a3' : n.toList.isEmpty = false := by simpa using a3
  by_cases a4 : 100 < n.size
  · clear h
    go_enter Tryz.func35, Tryz.ntmps35
    go_wp2
    go_ret2
    exact ⟨rfl, (by repeat (first | exact Below.refl _ _ | assumption | (refine below_drewN ?_ _) | (refine Below.alloc ?_ (by first | (simp; done) | (simp; omega) | omega) _) | (refine Below.setCell ?_ (by first | (simp; done) | (simp; omega) | omega) _)))⟩
  obtain ⟨a5, a6⟩ : 0 < len ∧ ¬ tx.toList = [] := by
    rcases h with h | h | h | h | h
    · exact absurd h a1
    · exact absurd h a2
    · exact absurd h a3
    · exact absurd h a4
    · exact h
  have a6' : tx.toList.isEmpty = false := by simpa using a6
  go_enter Tryz.func35, Tryz.ntmps35
  go_wp2
  go_ret2
  exact ⟨rfl, (by repeat (first | exact Below.refl _ _ | assumption | (refine below_drewN ?_ _) | (refine Below.alloc ?_ (by first | (simp; done) | (simp; omega) | omega) _) | (refine Below.setCell ?_ (by first | (simp; done) | (simp; omega) | omega) _)))⟩

theorem nameTo_end (s : ByteArray) (f : Nat) : nameTo s f s.size = true := by
  cases f with
  | zero => rfl
  | succ f => unfold nameTo; rw [if_pos (Nat.le_refl _)]

set_option maxHeartbeats 4000000 in
set_option maxRecDepth 100000 in
theorem right_yes (n tx : ByteArray) (ks : List Tree) (a : Option Addr) (c : Nat) (ar lf : Int) (w : World) (hlen : ks.length ≤ 2513169434843) (h0 : 0 ≤ ar) (h1 : ar ≤ 20) (h2 : 0 ≤ lf) (h3 : lf ≤ 20000) (_h4 : n.size ≤ maxRead) (h5 : tx.size ≤ maxRead)
    (a1 : ar < 20) (a2 : 1 ≤ lf) (a3 : ¬ n.toList = []) (a4 : n.size ≤ 100) (a5 : 0 < ks.length → tx.toList = []) (hk : KidsIn w ks a 0)
    (ih : ∀ k ∈ ks, ∀ (a : Option Addr) (c : Nat) (ar lf : Int) (w : World), k.kids.length ≤ 2513169434843 → 0 ≤ ar → ar ≤ 20 → 0 ≤ lf → lf ≤ 20000 → k.name.size ≤ maxRead → k.text.size ≤ maxRead → KidsIn w k.kids a 0 →
      Calls Tryz.prog 35 #[elemV' k a c, .int .i64 ar, .int .i64 lf] w fun e w' => e = .returned (.tuple #[.bool (rightV k ar lf).1, .int .i64 (rightV k ar lf).2]) ∧ Below w.heap.size w w') :
    Calls Tryz.prog 35 #[.agg #[.string n, .string tx, .slice a ks.length c], .int .i64 ar, .int .i64 lf] w
      fun e w' => e = .returned (.tuple #[.bool (rightV (.node n tx ks) ar lf).1, .int .i64 (rightV (.node n tx ks) ar lf).2]) ∧ Below w.heap.size w w' := by
  obtain ⟨r, HR⟩ : ∃ r, Hid (rightV (.node n tx ks) ar lf = r) := ⟨_, rfl⟩
  rw [HR.out]
  have HR2 : Hid (r = if nameB n && plainB tx then rightKids ks (ar + 1) (lf - 1) else (false, lf - 1)) := by
    show _ = _
    rw [← HR.out]
    simp only [rightV]
    rw [if_neg]
    intro h
    rcases h with h | h | h | h | ⟨h, h'⟩
    · omega
    · omega
    · exact a3 h
    · omega
    · exact h' (a5 h)
  have HK := Lib.hid hk
  have IH := Lib.hid ih
  have HP := Lib.hid (fun w => plain_any tx w h5)
  have a3' : n.toList.isEmpty = false := by simpa using a3
  have hn0 : 0 < n.size := by
    rcases Nat.eq_zero_or_pos n.size with h | h
    · exfalso; apply a3; rw [ByteArray.toList_eq]; exact List.eq_nil_of_length_eq_zero (by rw [Array.length_toList]; exact h)
    · exact h
  have hb := get_bt n
  have HF := Lib.hid (fun w => first_any (bt n 0) w (bt_nonneg _ _) (bt_le _ _))
  have HMR := Lib.hid (fun i w => more_any (bt n i) w (bt_nonneg _ _) (bt_le _ _))
  clear hk ih HR
  have hcase : (0 < ks.length ∧ tx.toList = []) ∨ ¬ 0 < ks.length := by
    by_cases h : 0 < ks.length
    · exact .inl ⟨h, a5 h⟩
    · exact .inr h
  clear a5
  rcases hcase with ⟨hkz, a6⟩ | hkz
  all_goals
    go_enter Tryz.func35, Tryz.ntmps35
    go_wp2_with (refine (HF.out _).mono ?_; rintro e w' ⟨rfl, rfl⟩)
    clear hkz
    go_loopg [8, 9] n.size (fun gg s8 s9 wr => ∃ (i : Nat) (ok : Bool), i ≤ n.size ∧ 1 ≤ i ∧ n.size - i ≤ gg ∧ s9 = .int .i64 i ∧ s8 = .bool ok ∧ Hid (∃ f, n.size - i ≤ f ∧ nameB n = (ok && nameTo n f i)) ∧
      Hid (wr.heap[w.heap.size]? = some (.cells #[.string n, .string tx, .slice a ks.length c] 24 (0, 0))) ∧ Hid (Below w.heap.size w wr))
    case atStart => exact ⟨1, _, by omega, by omega, by omega, rfl, rfl, (show Hid _ from ⟨n.size, by omega, rfl⟩), (show Hid _ from heap_alloc_new _ _), (show Hid _ from below_alloc (Below.refl _ _) (Nat.le_refl _) _)⟩
    case round =>
      obtain ⟨i, ok, hin, hi1, hgg, rfl, rfl, HN, HH, HB⟩ := hrel
      have q0 : wr.cell? ⟨w.heap.size, 0, none⟩ = some (.string n) := cell_of_heap HH.out
      have q1 : wr.cell? ⟨w.heap.size, 1, none⟩ = some (.string tx) := cell_of_heap HH.out
      have q2 : wr.cell? ⟨w.heap.size, 2, none⟩ = some (.slice a ks.length c) := cell_of_heap HH.out
      by_cases hgo : i < n.size ∧ ok = true
      · obtain ⟨hlt, rfl⟩ := hgo
        have hltz : (i : Int) < (n.size : Int) := by omega
        go_wp2_with (refine (HMR.out i _).mono ?_; rintro e w' ⟨rfl, rfl⟩)
        go_roundg (n.size - (i + 1))
        case measure => omega
        case rel =>
          refine ⟨i + 1, moreB (bt n i), by omega, by omega, Nat.le_refl _, by go_num, rfl, (show Hid _ from ?_), HH, HB⟩
          obtain ⟨f, hf1, hf2⟩ := HN.out
          cases f with
          | zero => omega
          | succ f => exact ⟨f, by omega, by rw [hf2, nameTo, if_neg (by omega)]; rfl⟩
      · have HNB : Hid (nameB n = ok) := by
          obtain ⟨f, hf1, hf2⟩ := HN.out
          show _ = _
          rw [hf2]
          cases ok with
          | false => rfl
          | true =>
            obtain rfl : i = n.size := by
              by_cases h : i < n.size
              · exact absurd ⟨h, rfl⟩ hgo
              · omega
            rw [nameTo_end]; rfl
        clear HN
        have hstop : (i : Int) < (n.size : Int) → ok = false := fun h => by
          cases ok with
          | false => rfl
          | true => exact absurd ⟨by omega, rfl⟩ hgo
        clear hgo
        -- the second loop, from whatever it begins with
        cases ok with
        | true =>
          have hge : (n.size : Int) ≤ (i : Int) := by
            by_cases h : (i : Int) < (n.size : Int)
            · exact absurd (hstop h) (by simp)
            · omega
          clear hstop
          have HRP : Hid (r = if plainB tx then rightKids ks (ar + 1) (lf - 1) else (false, lf - 1)) := by
            show _ = _
            rw [HR2.out, HNB.out]; rfl
          obtain ⟨pt, hpt⟩ : ∃ pt, Hid (plainB tx = pt) := ⟨_, rfl⟩
          obtain ⟨wo, rfl⟩ : ∃ wo : World, wo = wr := ⟨_, rfl⟩
          go_wp2_with fail
          refine Calls.mono (HP.out _) ?_
          rw [hpt.out] at HRP ⊢
          rintro e w2 ⟨rfl, hb2⟩
          have sr := HB.out.size
          have hsz : w.heap.size < wo.heap.size := (Array.getElem?_eq_some_iff.1 HH.out).1
          have HH2 : Hid (w2.heap[w.heap.size]? = some (.cells #[.string n, .string tx, .slice a ks.length c] 24 (0, 0))) := (hb2.block _ hsz).trans HH.out
          have HB2 : Hid (Below w.heap.size w w2) := HB.out.trans (hb2.mono sr)
          clear hb2 q0 q1 q2
          go_wp2
          clear hge
          go_loopg [2, 8, 10] ks.length (fun gg s2 s8 s10 wr => ∃ (j : Nat) (ok : Bool) (l : Int), j ≤ ks.length ∧ ks.length - j ≤ gg ∧ s10 = .int .i64 j ∧ s8 = .bool ok ∧ s2 = .int .i64 l ∧ -1 ≤ l ∧ l ≤ 20000 ∧ Hid (ok = true → 0 ≤ l) ∧
            Hid (r = if ok then rightKids (ks.drop j) (ar + 1) l else (false, l)) ∧ Hid (wr.heap[w.heap.size]? = some (.cells #[.string n, .string tx, .slice a ks.length c] 24 (0, 0))) ∧ Hid (Below w.heap.size w wr))
          case atStart => exact ⟨0, pt, lf - 1, Nat.zero_le _, by omega, rfl, rfl, rfl, by omega, by omega, (show Hid _ from fun _ => by omega), (show Hid _ from HRP.out), HH2.out, HB2.out⟩
          case round =>
            clear HH HB HH2 HB2 HRP HNB hpt sr hsz
            obtain ⟨j, ok, l, hjn, hgj, rfl, rfl, rfl, hl1, hl2, HL, HF, HH, HB⟩ := hrel
            have q0 : wr.cell? ⟨w.heap.size, 0, none⟩ = some (.string n) := cell_of_heap HH.out
            have q2 : wr.cell? ⟨w.heap.size, 2, none⟩ = some (.slice a ks.length c) := cell_of_heap HH.out
            cases ok with
            | false =>
              have HE : Hid (r = (false, l)) := by show _ = _; rw [HF.out]; rfl
              by_cases hj : (j : Int) < (ks.length : Int)
              all_goals
                go_wp2
                go_ret2
                rw [HE.out]
                exact ⟨rfl, HB.out⟩
            | true =>
              by_cases hj : j < ks.length
              · have hjz : (j : Int) < (ks.length : Int) := by omega
                obtain ⟨k, HKj⟩ : ∃ k, Hid (ks[j]? = some k) := ⟨_, List.getElem?_eq_getElem hj⟩
                obtain ⟨b, off, a', c', rfl, k0, k1, k2, kn, kt, kl, kk, _⟩ := (KidsIn.later HB.out _ _ _ HK.out).kid HKj.out
                have hlz := HL.out rfl
                have HC := Lib.hid (IH.out k (List.mem_of_getElem? HKj.out) a' c' (ar + 1) l wr kl (by omega) (by omega) hlz hl2 kn kt kk)
                have HS := Lib.hid (rightKids_at HKj.out (ar + 1) l)
                obtain ⟨d1, d2, d3⟩ := rightV_bd k (ar + 1) l hlz
                obtain ⟨rk, hrk⟩ : ∃ rk, Hid (rightV k (ar + 1) l = rk) := ⟨_, rfl⟩
                rw [hrk.out] at HC HS d1 d2 d3
                obtain ⟨okk, lk⟩ := rk
                simp only [elemV'] at HC
                simp only at HS d1 d2 d3
                have D3 := Lib.hid d3
                clear d3 kk kl kn kt hrk
                go_wp2_with fail
                refine HC.out.mono ?_
                rintro e w3 ⟨rfl, hb3⟩
                have HH3 : Hid (w3.heap[w.heap.size]? = some (.cells #[.string n, .string tx, .slice (some ⟨b, off, none⟩) ks.length c] 24 (0, 0))) := (hb3.block _ (Array.getElem?_eq_some_iff.1 HH.out).1).trans HH.out
                have HB3 : Hid (Below w.heap.size w w3) := HB.out.trans (hb3.mono HB.out.size)
                clear hb3 k0 k1 k2 q0 q2
                go_wp2
                go_roundg (ks.length - (j + 1))
                case measure => omega
                case rel => exact ⟨j + 1, okk, lk, by omega, Nat.le_refl _, by go_num, rfl, rfl, d1, by omega, D3.out, (show Hid _ from by rw [HF.out]; exact HS.out), HH3.out, HB3.out⟩
              · obtain rfl : j = ks.length := by omega
                have HE : Hid (r = (true, l)) := by show _ = _; rw [HF.out, List.drop_length]; simp [rightKids]
                go_wp2
                go_ret2
                rw [HE.out]
                exact ⟨rfl, HB.out⟩
        | false =>
          clear hstop
          have HE : Hid (r = (false, lf - 1)) := by show _ = _; rw [HR2.out, HNB.out]; rfl
          go_wp2
          all_goals
            go_rounds 1
            all_goals
              go_ret2
              rw [HE.out]
              exact ⟨rfl, HB.out⟩

/-- right, at whatever element -/
theorem rRight_any : ∀ (t : Tree) (a : Option Addr) (c : Nat) (ar lf : Int) (w : World), t.kids.length ≤ 2513169434843 → 0 ≤ ar → ar ≤ 20 → 0 ≤ lf → lf ≤ 20000 → t.name.size ≤ maxRead → t.text.size ≤ maxRead → KidsIn w t.kids a 0 →
    Calls Tryz.prog 35 #[elemV' t a c, .int .i64 ar, .int .i64 lf] w fun e w' => e = .returned (.tuple #[.bool (rightV t ar lf).1, .int .i64 (rightV t ar lf).2]) ∧ Below w.heap.size w w' := by
  apply Tree.ind
  intro n tx ks ih a c ar lf w hl h0 h1 h2 h3 h4 h5 hk
  simp only [Tree.name, Tree.text, Tree.kids] at *
  by_cases h : 20 ≤ ar ∨ lf < 1 ∨ n.toList = [] ∨ 100 < n.size ∨ (0 < ks.length ∧ ¬ tx.toList = [])
  · have e : rightV (.node n tx ks) ar lf = (false, lf - 1) := by simp only [rightV]; rw [if_pos h]
    rw [e]
    exact right_no n tx a ks.length c ar lf w hl h0 h1 h2 h3 h4 h5 h
  · exact right_yes n tx ks a c ar lf w hl h0 h1 h2 h3 h4 h5 (by omega) (by omega) (fun e => h (by simp [e])) (by omega) (fun hk => by
      by_cases e : tx.toList = []
      · exact e
      · exact absurd (.inr (.inr (.inr (.inr ⟨hk, e⟩)))) h) hk ih

end Go.Proofs.YtgmgghbocidibaaGreatDoor

/-
  ARMS for walks: a row, a part of one, one cell is stored: the world behind it by its facts alone.
-/
namespace Go.Proofs.YtgmgghbocidibaaGreatDoor
open Go.RowKit

/-- a row is stored; the world behind it by its facts alone -/
theorem wpList_store_rowN {P : Program} {ops : Array Oper} {rest : List Oper} {o : Oper} {a : Act} {w : World} {Q : Exit → Act → World → Prop} (hgd : o.guard = none) (ty : TypeId) (x y : Operand) (ho : o.op = .store ty x y)
    (g : Nat) (cells : Array Value) (hx : a.eval x = .pointer (some ⟨g, 0, none⟩)) (hy : a.eval y = .agg cells)
    (t : TypeId) (old : Array Value) (hg : w.heap[g]? = some (.cells old t (0, 0))) (hi : (P.info? ty).map (·.size) = some cells.size)
    (hold : old.size = cells.size) (h1 : cells.all (·.oneCell') = true) (p : World → Prop) (hp : p (w.setRow g cells))
    (h : ∀ W, p W → wpList P ops Q rest (a.put o.dst undef) W) : wpList P ops Q (o :: rest) a w :=
  wpList_store_row hgd ty x y ho g cells hx hy t old hg hi hold h1 (h _ hp)

/-- a block whose cells o .. o + vs.length are written anew -/
def partSet (old : Array Value) (o : Nat) (vs : List Value) : Array Value := (old.toList.take o ++ vs ++ old.toList.drop (o + vs.length)).toArray
theorem run_storeVar_part {P : Program} (w : World) (g o : Nat) (ty t : TypeId) (old : Array Value) (vs : List Value) (hg : w.heap[g]? = some (.cells old t (0, 0))) (ho : o + vs.length ≤ old.size) (hi : (P.info? ty).map (·.size) = some vs.length) (h1 : vs.all (·.oneCell') = true) :
    (storeVar ty ⟨g, o, none⟩ (.agg vs.toArray)).run P w = .ok () (w.setRow g (partSet old o vs)) := by
  have := run_storeCells_at (P := P) g o t vs 0 old w hg (by omega) (fun x hx => List.all_eq_true.1 h1 x hx)
  cases hq : P.info? ty with
  | none => simp [hq] at hi
  | some i =>
    have hs : vs.length = i.size := by simp [hq] at hi; omega
    simp only [Nat.add_zero] at this
    simp [storeVar, sizeOf, typeInfo, hq, Value.cells, hs, this, partSet]
theorem wpList_store_partN {P : Program} {ops : Array Oper} {rest : List Oper} {o : Oper} {a : Act} {w : World} {Q : Exit → Act → World → Prop} (hgd : o.guard = none) (ty : TypeId) (x y : Operand) (ho : o.op = .store ty x y)
    (g off : Nat) (vs : List Value) (hx : a.eval x = .pointer (some ⟨g, off, none⟩)) (hy : a.eval y = .agg vs.toArray)
    (t : TypeId) (old : Array Value) (hg : w.heap[g]? = some (.cells old t (0, 0))) (hoff : off + vs.length ≤ old.size) (hi : (P.info? ty).map (·.size) = some vs.length) (h1 : vs.all (·.oneCell') = true)
    (p : World → Prop) (hp : p (w.setRow g (partSet old off vs)))
    (h : ∀ W, p W → wpList P ops Q rest (a.put o.dst undef) W) : wpList P ops Q (o :: rest) a w :=
  wpList_plain hgd fun _ hK => by
    unfold Oper.wp execOp
    simp only [ho, hx, hy, Instr.storeAt, Instr.sureAddr, Sem.run_bind, Sem.run_pure, Result.andThen_ok, run_storeVar_part w g off ty t old vs hg hoff hi h1]
    exact hK _ _ (h _ hp)
theorem run_storeVar_cell {P : Program} (w : World) (g o : Nat) (ty t : TypeId) (old : Array Value) (v : Value) (hg : w.heap[g]? = some (.cells old t (0, 0))) (ho : o < old.size) (hi : (P.info? ty).map (·.size) = some 1) (h1 : v.oneCell' = true) :
    (storeVar ty ⟨g, o, none⟩ v).run P w = .ok () (w.setRow g (partSet old o [v])) := by
  have := run_storeCells_at (P := P) g o t [v] 0 old w hg (by simp; omega) (fun x hx => by simp at hx; subst hx; exact h1)
  have hc : v.cells = #[v] := by cases v <;> first | rfl | cases h1
  cases hq : P.info? ty with
  | none => simp [hq] at hi
  | some i =>
    have hs : i.size = 1 := by simpa [hq] using hi
    rw [show (old.toList.take (o + 0) ++ [v] ++ old.toList.drop (o + 0 + [v].length)).toArray = partSet old o [v] from rfl] at this
    simp [storeVar, sizeOf, typeInfo, hq, hc, hs, this]
theorem wp_store_cellN {P : Program} {o : Oper} {a : Act} {w : World} {K : Act → World → Prop} {Q : Exit → Act → World → Prop} (ty : TypeId) (x y : Operand) (ho : o.op = .store ty x y)
    (g off : Nat) (v : Value) (hx : a.eval x = .pointer (some ⟨g, off, none⟩)) (hy : a.eval y = v) (h1 : v.oneCell' = true)
    (t : TypeId) (old : Array Value) (hg : w.heap[g]? = some (.cells old t (0, 0))) (hoff : off < old.size) (hi : (P.info? ty).map (·.size) = some 1)
    (p : World → Prop) (hp : p (w.setRow g (partSet old off [v])))
    (h : ∀ W, p W → K (a.put o.dst undef) W) : o.wp P a w K Q := by
  unfold Oper.wp execOp
  simp only [ho, hx, hy, Instr.storeAt, Instr.sureAddr, Sem.run_bind, Sem.run_pure, Result.andThen_ok, run_storeVar_cell w g off ty t old v hg hoff hi h1]
  exact h _ hp
theorem wpList_store_cellN {P : Program} {ops : Array Oper} {rest : List Oper} {o : Oper} {a : Act} {w : World} {Q : Exit → Act → World → Prop} (hgd : o.guard = none) (ty : TypeId) (x y : Operand) (ho : o.op = .store ty x y)
    (g off : Nat) (v : Value) (hx : a.eval x = .pointer (some ⟨g, off, none⟩)) (hy : a.eval y = v) (h1 : v.oneCell' = true)
    (t : TypeId) (old : Array Value) (hg : w.heap[g]? = some (.cells old t (0, 0))) (hoff : off < old.size) (hi : (P.info? ty).map (·.size) = some 1)
    (p : World → Prop) (hp : p (w.setRow g (partSet old off [v])))
    (h : ∀ W, p W → wpList P ops Q rest (a.put o.dst undef) W) : wpList P ops Q (o :: rest) a w :=
  wpList_plain hgd fun _ hK => wp_store_cellN ty x y ho g off v hx hy h1 t old hg hoff hi p hp fun W hW => hK _ _ (h W hW)

/-- a part of a block that is known -/
theorem range_of_heap {w : World} {g o : Nat} {cur : Array Value} {t : TypeId} {fr : Nat × Nat} {cs : List Value} (h : w.heap[g]? = some (.cells cur t fr)) (hc : ∀ j v, cs[j]? = some v → cur[o + j]? = some v) : w.rangeAt g o cs := fun j v hv => by
  have := hc j v hv
  simp only [World.cell?, h]
  simpa using this
theorem heap_old {w : World} {k : Nat} {x : Obj} (o : Obj) (h : w.heap[k]? = some x) : (w.alloc o).heap[k]? = some x := (Below.heap_alloc w o k (Array.getElem?_eq_some_iff.1 h).1).trans h
theorem cell_at {w : World} {g x : Nat} {cur : Array Value} {t : TypeId} {v : Value} (h : w.heap[g]? = some (.cells cur t (0, 0))) (hv : cur[x]? = some v) : w.cell? ⟨g, x, none⟩ = some v := (cell_of_heap h).trans hv
theorem Chg.setRow_on {A B : World} {M : Nat → Prop} (h : Chg A B M) {g : Nat} (new : Array Value) (hm : M g) : Chg A (B.setRow g new) M :=
  ⟨h.os, h.tape, h.output, by have := h.size; simpa using this, fun k hk hn => (setRow_other _ _ _ _ (fun e => hn (by rw [e]; exact hm))).trans (h.block k hk hn)⟩
theorem Chg.below_on {A B C : World} {M : Nat → Prop} (h : Chg A B M) (k : Below B.heap.size B C) : Chg A C M := h.trans (Chg.of_below k)
end Go.Proofs.YtgmgghbocidibaaGreatDoor
