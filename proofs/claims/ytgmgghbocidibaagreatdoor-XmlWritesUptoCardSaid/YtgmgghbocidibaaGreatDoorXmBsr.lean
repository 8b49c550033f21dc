/-
  strings: the replacer of bytes by strings: Replace. (Printed by wip/gen/xmbsr.py.)
-/
import Derived.Test.YtgmgghbocidibaaGreatDoorXmParse
import Derived.OwnWalk
import Derived.Laws.CopyOwn
import Derived.Laws.OwnMore
namespace Go.Proofs.YtgmgghbocidibaaGreatDoor
open Go.RowKit Go.Lib Go.PlainAid

/-- a byte that is written otherwise -/
def repB (x : UInt8) : Bool := x = 38 || x = 60 || x = 62 || x = 34 || x = 13
def repL : Bs := [13, 34, 62, 60, 38]
theorem esc_of_not {x : UInt8} (h : repB x = false) : escB x = [x] := by
  unfold repB at h
  simp only [Bool.or_eq_false_iff, decide_eq_false_iff_not] at h
  exact escB_other (by rintro (e | e | e | e | e) <;> simp_all)
theorem esc_one_le (x : UInt8) : 1 ≤ (escB x).length ∧ (escB x).length ≤ 6 := by
  unfold escB
  repeat' split
  all_goals first | decide | (simp; done)
/-- what the replacer's table holds -/
structure Bsr (w : World) (Rb : Nat) (K : Nat → Prop) : Prop where
  no : ∀ x : UInt8, repB x = false → w.cell? ⟨Rb, x.toNat, none⟩ = some (.slice none 0 0)
  yes : ∀ x : UInt8, repB x = true → ∃ q c, w.cell? ⟨Rb, x.toNat, none⟩ = some (.slice (some ⟨q, 0, none⟩) (escB x).length c) ∧ K q ∧ ∀ j y, (escB x)[j]? = some y → w.cell? ⟨q, j, none⟩ = some (.int .u8 (y : UInt8).toNat)
  rep : ∃ q c, w.cell? ⟨Rb, 256, none⟩ = some (.slice (some ⟨q, 0, none⟩) 5 c) ∧ K q ∧ ∀ j y, repL[j]? = some y → w.cell? ⟨q, j, none⟩ = some (.string ⟨#[y]⟩)
  own : K Rb
theorem Bsr.kept {w w' : World} {Rb : Nat} {K : Nat → Prop} (h : Bsr w Rb K) (hk : ∀ k, k < w.heap.size → K k → w'.heap[k]? = w.heap[k]?) : Bsr w' Rb K := by
  have cl : ∀ {b o : Nat} {v : Value}, K b → w.cell? ⟨b, o, none⟩ = some v → w'.cell? ⟨b, o, none⟩ = some v := fun hb hv => (World.cell?_of_block (hk _ (World.block_lt_of_cell? _ _ hv) hb)).trans hv
  refine ⟨fun x hx => cl h.own (h.no x hx), fun x hx => ?_, ?_, h.own⟩
  · obtain ⟨q, c, h1, h2, h3⟩ := h.yes x hx
    exact ⟨q, c, cl h.own h1, h2, fun j y hj => cl h2 (h3 j y hj)⟩
  · obtain ⟨q, c, h1, h2, h3⟩ := h.rep
    exact ⟨q, c, cl h.own h1, h2, fun j y hj => cl h2 (h3 j y hj)⟩
theorem Bsr.later {w w' : World} {Rb : Nat} {K : Nat → Prop} (h : Bsr w Rb K) (hb : Below w.heap.size w w') : Bsr w' Rb K := h.kept fun k hk _ => hb.block k hk
theorem Bsr.lt {w : World} {Rb : Nat} {K : Nat → Prop} (h : Bsr w Rb K) : Bsr w Rb (fun k => k < w.heap.size) := by
  refine ⟨h.no, fun x hx => ?_, ?_, ?_⟩
  · obtain ⟨q, c, h1, _, h3⟩ := h.yes x hx
    refine ⟨q, c, h1, ?_, h3⟩
    have hne : 0 < (escB x).length := by
      unfold escB
      repeat' split
      all_goals first | decide | (simp; done)
    exact World.block_lt_of_cell? _ _ (h3 0 _ (List.getElem?_eq_getElem hne))
  · obtain ⟨q, c, h1, _, h3⟩ := h.rep
    exact ⟨q, c, h1, World.block_lt_of_cell? _ _ (h3 0 13 rfl), h3⟩
  · obtain ⟨q, c, h1, _, h3⟩ := h.rep
    exact World.block_lt_of_cell? _ _ h1
/-- how much longer it gets, by the bytes that are looked for -/
def moreL (s ys : Bs) : Nat := (ys.map fun y => s.count y * ((escB y).length - 1)).sum
theorem more_cons (x : UInt8) (s : Bs) : ∀ ys : Bs, moreL (x :: s) ys = moreL s ys + ys.count x * ((escB x).length - 1)
  | [] => by simp [moreL]
  | y :: ys => by
    have ih := more_cons x s ys
    unfold moreL at ih ⊢
    simp only [List.map_cons, List.sum_cons]
    rw [ih, List.count_cons, List.count_cons]
    by_cases h : x = y
    · subst h
      simp only [beq_self_eq_true, if_true, Nat.add_mul, Nat.one_mul]
      omega
    · have h1 : (x == y) = false := beq_eq_false_iff_ne.2 h
      have h2 : (y == x) = false := beq_eq_false_iff_ne.2 (Ne.symm h)
      simp only [h1, h2, Bool.false_eq_true, if_false, Nat.add_zero]
      omega
theorem esc_more : ∀ s : Bs, (escL s).length = s.length + moreL s repL
  | [] => by simp [escL, moreL, repL]
  | x :: s => by
    have ih := esc_more s
    have h1 := (esc_one_le x).1
    rw [more_cons]
    have hc : repL.count x * ((escB x).length - 1) = (escB x).length - 1 := by
      cases hx : repB x with
      | false => rw [esc_of_not hx]; simp
      | true =>
        unfold repB at hx
        simp only [Bool.or_eq_true, decide_eq_true_eq] at hx
        rcases hx with (((rfl | rfl) | rfl) | rfl) | rfl <;> decide
    rw [hc]
    unfold escL at ih ⊢
    rw [List.flatMap_cons, List.length_append, List.length_cons, ih]
    omega
theorem more_take {s : Bs} {i : Nat} {y : UInt8} {ys : Bs} (h : ys[i]? = some y) : moreL s (ys.take (i + 1)) = moreL s (ys.take i) + s.count y * ((escB y).length - 1) := by
  unfold moreL
  rw [List.take_add_one, h, List.map_append, List.sum_append]
  simp
theorem any_rep (s : Bs) : s.any repB = repL.any fun y => decide (s.count y ≠ 0) := by
  rw [Bool.eq_iff_iff, List.any_eq_true, List.any_eq_true]
  constructor
  · rintro ⟨x, hx, hr⟩
    unfold repB at hr
    simp only [Bool.or_eq_true, decide_eq_true_eq] at hr
    refine ⟨x, ?_, ?_⟩
    · rcases hr with (((rfl | rfl) | rfl) | rfl) | rfl <;> decide
    · rw [decide_eq_true_eq]
      have := List.count_pos_iff.2 hx
      omega
  · rintro ⟨y, hy, hc⟩
    rw [decide_eq_true_eq] at hc
    have hx := List.count_pos_iff.1 (Nat.pos_of_ne_zero hc)
    refine ⟨y, hx, ?_⟩
    simp only [repL, List.mem_cons, List.not_mem_nil, or_false] at hy
    rcases hy with rfl | rfl | rfl | rfl | rfl <;> decide
theorem esc_none {s : Bs} (h : s.any repB = false) : escL s = s := by
  induction s with
  | nil => rfl
  | cons x s ih =>
    rw [List.any_cons, Bool.or_eq_false_iff] at h
    unfold escL at ih ⊢
    rw [List.flatMap_cons, esc_of_not h.1, ih h.2]
    rfl
theorem esc_take {s : Bs} {i : Nat} {x : UInt8} (h : s[i]? = some x) : escL (s.take (i + 1)) = escL (s.take i) ++ escB x := by
  rw [List.take_add_one, h, esc_append]
  simp [escL]
theorem wp_copy_own {P : Program} {w : World} {o : Oper} {a : Act} {K : Act → World → Prop} {Q : Exit → Act → World → Prop} (d s : Operand) (dT sT : TypeId)
    (ho : o.op = .call { callee := .builtin .copy, args := #[d, s], argTypes := #[dT, sT] }) (elem : TypeId) (hu : P.underlying dT = some (.slice elem)) (hsz : (P.info? elem).map (·.size) = some 1)
    (g off dLen dCap : Nat) (ad : Addr) (sLen sCap : Nat) (hd : a.eval d = .slice (some ⟨g, off, none⟩) dLen dCap) (hs : a.eval s = .slice (some ad) sLen sCap)
    (cur : Array Value) (t : TypeId) (hg : w.heap[g]? = some (.cells cur t (0, 0))) (cs : List Value) (hn : cs.length = Nat.min sLen dLen)
    (hsrc : ∀ j v, cs[j]? = some v → w.cell? (ad.add j) = some v) (hfit : off + cs.length ≤ cur.size) (h1 : ∀ v ∈ cs, v.oneCell' = true)
    (h : K (a.put o.dst (goInt cs.length)) (w.setRow g (partSet cur off cs))) : o.wp P a w K Q := by
  have hrun := run_copy_row (P := P) w dT sT o.type elem g off dLen dCap ad sLen sCap cur t cs hu hsz hg hn hsrc hfit h1
  unfold Oper.wp
  have h' := h
  simp only [partSet, List.append_assoc] at h'
  simp [execOp, ho, resolve, invoke, builtin, hd, hs, hrun, Result.andThen]
  exact h'
/-- the new text, as far as it has been written: in block g, of N bytes -/
structure BufAt (W : World) (g N : Nat) (l : Bs) (cur : Array Value) : Prop where
  at_ : W.heap[g]? = some (.cells cur 5 (0, 0))
  size : cur.size = N
  done : cur.toList.take l.length = Lib.byteCells l
  le : l.length ≤ N
theorem BufAt.put {W : World} {g N : Nat} {l m : Bs} {cur : Array Value} (h : BufAt W g N l cur) (hl : l.length + m.length ≤ N) : BufAt (W.setRow g (partSet cur l.length (Lib.byteCells m))) g N (l ++ m) (partSet cur l.length (Lib.byteCells m)) := by
  have hm : (Lib.byteCells m).length = m.length := Lib.byteCells_length m
  have hf : l.length + (Lib.byteCells m).length ≤ cur.size := by rw [hm, h.size]; exact hl
  refine ⟨setRow_heap _ _ _ _ _ _ h.at_, by rw [partSet_size hf]; exact h.size, ?_, by rw [List.length_append]; exact hl⟩
  rw [List.length_append, ← hm, partSet_take hf, h.done, Lib.byteCells_append]
theorem one_bytes (l : Bs) : ∀ v ∈ Lib.byteCells l, v.oneCell' = true := by
  intro v hv
  unfold Lib.byteCells at hv
  obtain ⟨x, _, rfl⟩ := List.mem_map.1 hv
  rfl

theorem more_le (s ys : Bs) (i : Nat) : moreL s (ys.take i) ≤ moreL s ys := by
  unfold moreL
  conv => rhs; rw [← List.take_append_drop i ys]
  rw [List.map_append, List.sum_append]
  omega
theorem mul_nat (n L : Nat) (hn : n ≤ 4000000) (h1 : 1 ≤ L) (h6 : L ≤ 6) (m : Nat) (hm : m ≤ 30000000) : wrap64 ((m : Int) + wrap64 ((n : Int) * ((L : Int) - 1))) = ((m + n * (L - 1) : Nat) : Int) := by
  have h2 : n * (L - 1) ≤ n * 5 := Nat.mul_le_mul_left _ (by omega)
  have h3 : (n : Int) * ((L : Int) - 1) = ((n * (L - 1) : Nat) : Int) := by
    rw [Int.natCast_mul, Int.natCast_sub h1]
    rfl
  rw [h3]
  generalize n * (L - 1) = P at *
  unfold wrap64
  omega
theorem rep_at : ∀ i : Nat, i < 5 → ∃ y, repL[i]? = some y ∧ repB y = true
  | 0, _ => ⟨_, rfl, by decide⟩
  | 1, _ => ⟨_, rfl, by decide⟩
  | 2, _ => ⟨_, rfl, by decide⟩
  | 3, _ => ⟨_, rfl, by decide⟩
  | 4, _ => ⟨_, rfl, by decide⟩
  | n + 5, h => absurd h (by omega)
theorem any_take {α : Type} {l : List α} {p : α → Bool} {i : Nat} {x : α} (h : l[i]? = some x) : (l.take (i + 1)).any p = ((l.take i).any p || p x) := by
  rw [List.take_add_one, h, List.any_append]
  simp

set_option maxHeartbeats 8000000 in
set_option maxRecDepth 100000 in
theorem bsr_any {w : World} {Rb : Nat} {K : Nat → Prop} (h : Bsr w Rb K) (S : ByteArray) (hS : S.size ≤ 4000000) :
    Calls Tryz.prog 184 #[.pointer (some ⟨Rb, 0, none⟩), .string S] w fun e w' => e = .returned (.string ⟨(escL S.data.toList).toArray⟩) ∧ Below w.heap.size w w' := by
  obtain ⟨s, hs⟩ : ∃ s, S.data.toList = s := ⟨_, rfl⟩
  have hsl : s.length = S.size := by rw [← hs, Array.length_toList]; rfl
  have HS := Lib.hid hs
  have HB := Lib.hid h
  have hbS := get_bt S
  have HEL := Lib.hid (esc_len s)
  have HEM := Lib.hid (esc_more s)
  obtain ⟨qr, cr, kr, -, hr3⟩ := h.rep
  have HR3 := Lib.hid hr3
  rw [hs]
  clear h hs hr3
  go_enter Tryz.func184, Tryz.ntmps184
  go_upto_region 3 with (fail)
  go_cut [26] (fun s26 wx => s26 = .bool (decide (40 ≤ S.size)) ∧ wx = w)
  case first =>
    by_cases h40 : 40 ≤ S.size
    · have h40z : (40 : Int) ≤ (S.size : Int) := by omega
      go_wp2_with fail
      go_meet
      case rel => exact ⟨by rw [decide_eq_true h40], rfl⟩
    · have h40z : ¬ (40 : Int) ≤ (S.size : Int) := by omega
      go_wp2_with fail
      go_meet
      case rel => exact ⟨by rw [decide_eq_false h40], rfl⟩
  case rest =>
    obtain ⟨rfl, hww⟩ := hcut
    have hww := hww.symm
    subst hww
    go_upto_if 26 with (fail)
    go_cut [5, 6] (fun s5 s6 wx => s5 = .int .i64 ((escL s).length : Int) ∧ s6 = .bool (s.any repB) ∧ Hid (Below w.heap.size w wx))
    case first =>
      by_cases h40 : 40 ≤ S.size
      · rw [decide_eq_true h40]
        clear h40
        go_wp2_with fail
        go_loopg [5, 6, 32] 5 (fun gg s5 s6 s32 wr => ∃ i : Nat, i ≤ 5 ∧ 5 - i ≤ gg ∧ s5 = .int .i64 ((s.length + moreL s (repL.take i) : Nat) : Int) ∧ s6 = .bool ((repL.take i).any fun y => decide (s.count y ≠ 0)) ∧ s32 = .int .i64 i ∧ Hid (Below w.heap.size w wr))
        case atStart => exact ⟨0, by omega, by omega, by rw [hsl]; rfl, rfl, rfl, Below.refl _ _⟩
        case round =>
          obtain ⟨i, hi, hg, rfl, rfl, rfl, HW⟩ := hrel
          by_cases hlt : i < 5
          · have hiz : (i : Int) < 5 := by omega
            obtain ⟨y, hy, hry⟩ := rep_at i hlt
            have c0 := cell_later HW.out (HR3.out i y hy)
            obtain ⟨Y, hY⟩ : ∃ Y : ByteArray, (⟨#[y]⟩ : ByteArray) = Y := ⟨_, rfl⟩
            have hYs : Y.size = 1 := by rw [← hY]; rfl
            have hY0 : bt Y 0 = (y.toNat : Int) := by rw [← hY]; rfl
            have hbY := get_bt Y
            have HCT : Hid (∀ W, Calls Tryz.prog 186 #[.string S, .string Y] W fun e w' => e = .returned (.int .i64 (s.count y : Nat)) ∧ w' = W) := fun W => by
              have := Tryz.strings_Count_one S y W
              rw [HS.out, hY] at this
              exact this
            rw [hY] at c0
            obtain ⟨q, cq, t1, -, -⟩ := (HB.out.later HW.out).yes y hry
            have HMT := Lib.hid (more_take (s := s) hy)
            have HAT := Lib.hid (any_take (p := fun y => decide (s.count y ≠ 0)) hy)
            have hcl : s.count y ≤ s.length := List.count_le_length
            have hml : moreL s (repL.take i) ≤ 20000000 := by
              have := more_le s repL i
              have := HEL.out
              have := HEM.out
              omega
            obtain ⟨n5, hn5⟩ : ∃ n5, (s.length + moreL s (repL.take i) : Nat) = n5 := ⟨_, rfl⟩
            rw [hn5]
            have HN5 := Lib.hid hn5
            have hn5b : n5 ≤ 24000000 := by omega
            obtain ⟨a6, ha6⟩ : ∃ a6, ((repL.take i).any fun y => decide (s.count y ≠ 0)) = a6 := ⟨_, rfl⟩
            rw [ha6]
            have HA6 := Lib.hid ha6
            obtain ⟨n, hn⟩ : ∃ n, s.count y = n := ⟨_, rfl⟩
            rw [hn] at HCT hcl
            have HNC := Lib.hid hn
            have he6 := esc_one_le y
            obtain ⟨L6, hL6⟩ : ∃ L, (escB y).length = L := ⟨_, rfl⟩
            rw [hL6] at t1 he6
            have HL6 := Lib.hid hL6
            have hyb := y.toNat_lt
            clear hy hY hn5 ha6 hn hL6 hry
            by_cases hn0 : n = 0
            · have hnz : (n : Int) = 0 := by omega
              clear hn0
              go_wp2_with fail
              refine (HCT.out _).mono ?_
              rintro e W2 ⟨rfl, rfl⟩
              go_wp2_with fail
              go_roundg (5 - (i + 1))
              case measure => omega
              case rel =>
                refine ⟨i + 1, by omega, Nat.le_refl _, ?_, ?_, by go_num, HW.out⟩
                · rw [HMT.out, HNC.out, ← HN5.out]
                  have : n = 0 := by omega
                  rw [this]
                  simp
                · rw [HAT.out, HA6.out, HNC.out]
                  have : n = 0 := by omega
                  rw [this]
                  simp
            · have hnz : ((n : Int) != 0) = true := by rw [bne_iff_ne]; omega
              go_wp2_with fail
              refine (HCT.out _).mono ?_
              rintro e W2 ⟨rfl, rfl⟩
              go_upto_region 9 with (fail)
              go_quiet (fail)
              rw [mul_nat n L6 (by omega) he6.1 he6.2 n5 (by omega)]
              have HB2 := Lib.hid (HW.out.trans ((bel_drewN (Below.refl _ W2) nq).mono HW.out.size))
              generalize W2.drewN nq = W3 at *
              obtain ⟨n6, hn6⟩ : ∃ n6, n5 + n * (L6 - 1) = n6 := ⟨_, rfl⟩
              rw [hn6]
              have HN6 := Lib.hid hn6
              clear hn6
              go_wp2_with fail
              go_roundg (5 - (i + 1))
              case measure => omega
              case rel =>
                refine ⟨i + 1, by omega, Nat.le_refl _, ?_, ?_, by go_num, HB2.out⟩
                · rw [HMT.out, HNC.out, HL6.out, ← HN6.out, ← HN5.out, Nat.add_assoc]
                · rw [HAT.out, HA6.out, HNC.out]
                  simp [hn0]
          · obtain rfl : i = 5 := by omega
            have HEE : Hid (s.length + moreL s (repL.take 5) = (escL s).length) := HEM.out.symm
            have HAA : Hid (((repL.take 5).any fun y => decide (s.count y ≠ 0)) = s.any repB) := (any_rep s).symm
            rw [HEE.out, HAA.out]
            go_wp2_with fail
            go_meet
            case rel => exact ⟨rfl, rfl, HW.out⟩
      · rw [decide_eq_false h40]
        clear h40
        go_wp2_with fail
        go_loopg [5, 6, 10] s.length (fun gg s5 s6 s10 wr => ∃ i : Nat, i ≤ s.length ∧ s.length - i ≤ gg ∧ s5 = .int .i64 ((s.length - i + (escL (s.take i)).length : Nat) : Int) ∧ s6 = .bool ((s.take i).any repB) ∧ s10 = .int .i64 i ∧ wr = w)
        case atStart => exact ⟨0, by omega, by omega, by rw [← hsl]; simp [escL], rfl, rfl, rfl⟩
        case round =>
          obtain ⟨i, hi, hg, rfl, rfl, rfl, rfl⟩ := hrel
          by_cases hlt : i < s.length
          · have hiz : (i : Int) < (S.size : Int) := by omega
            obtain ⟨x, hx1, hx2⟩ := xt_at (s := S) (i := i) (by omega)
            have hxi : s[i]? = some x := by
              rw [HS.out] at hx1
              have h2 := congrArg (fun l => l[0]?) hx1
              simpa [List.getElem?_drop] using h2
            have HXT := Lib.hid (esc_take hxi)
            have HAT := Lib.hid (any_take (p := repB) hxi)
            have hxb := x.toNat_lt
            have hel : (escL (s.take i)).length ≤ 6 * i := by
              have := esc_len (s.take i)
              rw [List.length_take] at this
              omega
            obtain ⟨n5, hn5⟩ : ∃ n5, s.length - i + (escL (s.take i)).length = n5 := ⟨_, rfl⟩
            rw [hn5]
            have HN5 := Lib.hid hn5
            obtain ⟨a6, ha6⟩ : ∃ a6, (s.take i).any repB = a6 := ⟨_, rfl⟩
            rw [ha6]
            have HA6 := Lib.hid ha6
            obtain ⟨m6, hm6⟩ : ∃ m6, (escL (s.take i)).length = m6 := ⟨_, rfl⟩
            have HM6 := Lib.hid hm6
            rw [hm6] at hel hn5
            have he6 := esc_one_le x
            have HBX := Lib.hid hx2
            cases hrx : repB x with
            | true =>
              obtain ⟨q, cq, t1, -, -⟩ := HB.out.yes x hrx
              obtain ⟨L6, hL6⟩ : ∃ L, (escB x).length = L := ⟨_, rfl⟩
              rw [hL6] at t1 he6
              have HL6 := Lib.hid hL6
              have hn5z : (n5 : Int) ≤ 28000000 := by omega
              have HRX := Lib.hid hrx
              clear hx1 hxi hn5 ha6 hm6 hL6 hrx
              go_wp2_with fail
              go_roundg (s.length - (i + 1))
              case measure => omega
              case rel =>
                refine ⟨i + 1, by omega, Nat.le_refl _, ?_, ?_, by go_num, rfl⟩
                · rw [HXT.out, List.length_append, HM6.out, HL6.out]
                  have := HN5.out
                  rw [HM6.out] at this
                  congr 1
                  first | omega | (unfold wrap64; omega)
                · rw [HAT.out, HA6.out, HRX.out, Bool.or_true]
            | false =>
              have t1 := HB.out.no x hrx
              have HRX := Lib.hid hrx
              have HEN := Lib.hid (esc_of_not hrx)
              clear hx1 hxi hn5 ha6 hm6 hrx
              go_wp2_with fail
              go_roundg (s.length - (i + 1))
              case measure => omega
              case rel =>
                refine ⟨i + 1, by omega, Nat.le_refl _, ?_, ?_, by go_num, rfl⟩
                · rw [HXT.out, List.length_append, HM6.out, HEN.out]
                  have := HN5.out
                  rw [HM6.out] at this
                  congr 1
                  simp only [List.length_cons, List.length_nil]
                  omega
                · rw [HAT.out, HA6.out, HRX.out, Bool.or_false]
          · obtain rfl : i = s.length := by omega
            have HT : Hid (s.take s.length = s) := List.take_length
            have hge : ¬ (s.length : Int) < (S.size : Int) := by omega
            rw [HT.out, Nat.sub_self, Nat.zero_add]
            go_wp2_with fail
            go_meet
            case rel => exact ⟨rfl, rfl, Below.refl _ _⟩
    case rest =>
      obtain ⟨rfl, rfl, HW⟩ := hcut
      have HB2 := Lib.hid (HB.out.later HW.out)
      clear HR3 HB kr
      generalize wc = W0 at *
      cases hany : s.any repB with
      | false =>
        have HE : Hid ((⟨(escL s).toArray⟩ : ByteArray) = S) := by
          show _ = _
          rw [esc_none hany, ← HS.out]
        clear hany
        go_wp2_with fail
        rw [HE.out]
        go_ret
        exact ⟨rfl, HW.out⟩
      | true =>
        obtain ⟨i0, hi0, hz0, hz1, hz2⟩ := info_byte
        obtain ⟨N, hN⟩ : ∃ N, (escL s).length = N := ⟨_, rfl⟩
        rw [hN]
        have HNN := Lib.hid hN
        have hNb : N ≤ 24000000 := by have := HEL.out; omega
        clear hany hN
        go_wp2_with (refine wpList_make_full W0 (by rfl) _ _ 51 (by rfl) 0 5 i0 (.int .u8 0) 1 Tryz.underlying51 hi0 hz0 hz1 .i64 .i64 _ _ N (by rfl) (by rfl) rfl rfl (by rw [hz2]; omega) (by unfold maxLen; omega) (Nat.zero_le _) ?_)
        intro W1 hown hgr
        obtain ⟨g, hg⟩ : ∃ g, W0.heap.size = g := ⟨_, rfl⟩
        rw [hg] at hown ⊢
        obtain ⟨cur0, hc0⟩ := own_type (k := g) hown rfl
        have hb1 : Below W0.heap.size W0 W1 := ⟨hgr.os, hgr.tape, hgr.output, hgr.size, fun k hk => hgr.block k hk (by simp)⟩
        have hsz0 : cur0.size = N := by
          rcases hown.2 with ⟨e, _⟩ | ⟨q, c, cur', e, _, hq, _, _, hcs, _⟩
          · cases e
          · injection e with e1 _ e3
            injection e1 with e1
            injection e1 with e1 _ _
            subst e1 e3
            rw [hc0] at hq
            injection hq with hq
            injection hq with hq _ _
            subst hq
            omega
        have HBF : Hid (BufAt W1 g N [] cur0) := ⟨hc0, hsz0, by simp [Lib.byteCells], Nat.zero_le _⟩
        have HB1 := Lib.hid hb1
        have HG := Lib.hid hg
        have HT1 : Hid (Bsr W1 Rb (fun k => k < g)) := by show Bsr _ _ _; rw [← hg]; exact HB2.out.lt.later hb1
        clear hown hgr hc0 hsz0 hb1 hg
        go_wp2_with fail
        go_loopg [13, 14] s.length (fun gg s13 s14 wr => ∃ (i : Nat) (cur : Array Value), i ≤ s.length ∧ s.length - i ≤ gg ∧ s13 = .int .i64 ((escL (s.take i)).length : Nat) ∧ s14 = .int .i64 i ∧ Hid (BufAt wr g N (escL (s.take i)) cur) ∧ Hid (Below g W1 wr))
        case atStart => exact ⟨0, cur0, by omega, by omega, rfl, rfl, HBF.out, Below.refl _ _⟩
        case round =>
          obtain ⟨i, cur, hi, hg, rfl, rfl, HBU, HWR⟩ := hrel
          by_cases hlt : i < s.length
          · have hiz : (i : Int) < (S.size : Int) := by omega
            obtain ⟨x, hx1, hx2⟩ := xt_at (s := S) (i := i) (by omega)
            have hxi : s[i]? = some x := by
              rw [HS.out] at hx1
              have h2 := congrArg (fun l => l[0]?) hx1
              simpa [List.getElem?_drop] using h2
            have HXT := Lib.hid (esc_take hxi)
            have hfit : (escL (s.take i)).length + (escB x).length ≤ N := by
              have h1 : escL s = escL (s.take (i + 1)) ++ escL (s.drop (i + 1)) := by rw [← esc_append, List.take_append_drop]
              have h2 := HNN.out
              rw [h1, HXT.out, List.length_append, List.length_append] at h2
              omega
            have hxb := x.toNat_lt
            have HFIT := Lib.hid hfit
            obtain ⟨l, hl⟩ : ∃ l, escL (s.take i) = l := ⟨_, rfl⟩
            rw [hl] at HBU HXT hfit HFIT ⊢
            have HTW : Hid (Bsr wr Rb (fun k => k < g)) := by
              exact HT1.out.kept fun k _ hk => HWR.out.block k hk
            cases hrx : repB x with
            | true =>
              obtain ⟨q, cq, t1, hqg, hqc⟩ := HTW.out.yes x hrx
              have HQC := Lib.hid hqc
              obtain ⟨L6, hL6⟩ : ∃ L, (escB x).length = L := ⟨_, rfl⟩
              rw [hL6] at t1 hfit
              have HL6 := Lib.hid hL6
              obtain ⟨jn, hjn⟩ : ∃ jn, l.length = jn := ⟨_, rfl⟩
              rw [hjn] at hfit ⊢
              have HJN := Lib.hid hjn
              have he6 := esc_one_le x
              rw [HL6.out] at he6
              have hjz : (jn : Int) < (N : Int) := by omega
              have hjz2 : jn ≤ N := by omega
              have hNj : ¬ N = jn := by omega
              have hx256 : (x.toNat : Int) < 256 := by omega
              have hRg : Rb < g := HTW.out.own
              clear hx1 hxi hL6 hjn hqc hl
              go_upto_region 28 with (fail)
              refine wp_region_held_drew (S := (fun W : World => W.cell? ⟨Rb, x.toNat, none⟩ = some (.slice (some ⟨q, 0, none⟩) L6 cq))) (by kernel_rfl) t1 (fun hS0 => ?_)
              refine wpAnyH_take (i := 0) (oi := { dst := some 102, op := _, type := _, pos := _, after := _, guard := _ }) (v := ?_) rfl (by kernel_rfl) (by kernel_rfl) (by kernel_rfl) (fun _ _ _ h => h) (Or.inl ⟨by kernel_rfl, ?_⟩) (by assumption) ?_
              rotate_left
              · (intro w hSw; (try dsimp only at hSw); go_simp); all_goals (with_reducible rfl)
              try simp only [Act.put, List.setIfInBounds_toArray, List.set_cons_zero, List.set_cons_succ]
              refine wpAnyH_take (i := 1) (oi := { dst := some 103, op := _, type := _, pos := _, after := _, guard := _ }) (v := ?_) rfl (by kernel_rfl) (by kernel_rfl) (by kernel_rfl) (fun _ _ _ h => h) (Or.inl ⟨by kernel_rfl, ?_⟩) (by assumption) ?_
              rotate_left
              · (intro w hSw; (try dsimp only at hSw); go_simp); all_goals (with_reducible rfl)
              try simp only [Act.put, List.setIfInBounds_toArray, List.set_cons_zero, List.set_cons_succ]
              refine wpAnyH_take (i := 2) (oi := { dst := some 104, op := _, type := _, pos := _, after := _, guard := _ }) (v := ?_) rfl (by kernel_rfl) (by kernel_rfl) (by kernel_rfl) (fun _ _ _ h => h) (Or.inl ⟨by kernel_rfl, ?_⟩) (by assumption) ?_
              rotate_left
              · (intro w hSw; (try dsimp only at hSw); go_simp); all_goals (with_reducible rfl)
              try simp only [Act.put, List.setIfInBounds_toArray, List.set_cons_zero, List.set_cons_succ]
              refine wpAnyH_take (i := 3) (oi := { dst := some 105, op := _, type := _, pos := _, after := _, guard := _ }) (v := ?_) rfl (by kernel_rfl) (by kernel_rfl) (by kernel_rfl) (fun _ _ _ h => h) (Or.inl ⟨by kernel_rfl, ?_⟩) (by assumption) ?_
              rotate_left
              · (intro w hSw; (try dsimp only at hSw); go_simp); all_goals (with_reducible rfl)
              try simp only [Act.put, List.setIfInBounds_toArray, List.set_cons_zero, List.set_cons_succ]
              refine wpAnyH_take (i := 4) (oi := { dst := some 106, op := _, type := _, pos := _, after := _, guard := _ }) (v := ?_) rfl (by kernel_rfl) (by kernel_rfl) (by kernel_rfl) (fun _ _ _ h => h) (Or.inl ⟨by kernel_rfl, ?_⟩) (by assumption) ?_
              rotate_left
              · (intro w hSw; (try dsimp only at hSw); go_simp); all_goals (with_reducible rfl)
              try simp only [Act.put, List.setIfInBounds_toArray, List.set_cons_zero, List.set_cons_succ]
              refine wpAnyH_take (i := 5) (oi := { dst := some 107, op := _, type := _, pos := _, after := _, guard := _ }) (v := ?_) rfl (by kernel_rfl) (by kernel_rfl) (by kernel_rfl) (fun _ _ _ h => h) (Or.inl ⟨by kernel_rfl, ?_⟩) (by assumption) ?_
              rotate_left
              · (intro w hSw; (try dsimp only at hSw); go_simp); all_goals (with_reducible rfl)
              try simp only [Act.put, List.setIfInBounds_toArray, List.set_cons_zero, List.set_cons_succ]
              refine wpAnyH_take (i := 6) (oi := { dst := some 108, op := _, type := _, pos := _, after := _, guard := _ }) (v := ?_) rfl (by kernel_rfl) (by kernel_rfl) (by kernel_rfl) (fun _ _ _ h => h) (Or.inl ⟨by kernel_rfl, ?_⟩) (by assumption) ?_
              rotate_left
              · (intro w hSw; (try dsimp only at hSw); go_simp); all_goals (with_reducible rfl)
              try simp only [Act.put, List.setIfInBounds_toArray, List.set_cons_zero, List.set_cons_succ]
              refine wpAnyH_take (i := 7) (oi := { dst := some 109, op := _, type := _, pos := _, after := _, guard := _ }) (v := ?_) rfl (by kernel_rfl) (by kernel_rfl) (by kernel_rfl) (fun _ _ _ h => h) (Or.inl ⟨by kernel_rfl, ?_⟩) (by assumption) ?_
              rotate_left
              · (intro w hSw; (try dsimp only at hSw); go_simp); all_goals (with_reducible rfl)
              try simp only [Act.put, List.setIfInBounds_toArray, List.set_cons_zero, List.set_cons_succ]
              refine wpAnyH_take (i := 8) (oi := { dst := some 110, op := _, type := _, pos := _, after := _, guard := _ }) (v := ?_) rfl (by kernel_rfl) (by kernel_rfl) (by kernel_rfl) (fun _ _ _ h => h) (Or.inl ⟨by kernel_rfl, ?_⟩) (by assumption) ?_
              rotate_left
              · (intro w hSw; (try dsimp only at hSw); go_simp); all_goals (with_reducible rfl)
              try simp only [Act.put, List.setIfInBounds_toArray, List.set_cons_zero, List.set_cons_succ]
              refine wpAnyH_take (i := 9) (oi := { dst := some 111, op := _, type := _, pos := _, after := _, guard := _ }) (v := ?_) rfl (by kernel_rfl) (by kernel_rfl) (by kernel_rfl) (fun _ _ _ h => h) (Or.inl ⟨by kernel_rfl, ?_⟩) (by assumption) ?_
              rotate_left
              · (intro w hSw; (try dsimp only at hSw); have j0 := hSw; go_simp); all_goals (with_reducible rfl)
              try simp only [Act.put, List.setIfInBounds_toArray, List.set_cons_zero, List.set_cons_succ]
              refine wpAnyH_ready (rs := [10]) (by kernel_rfl) (by simp) ?_
              refine (AllReadyH.cons (o := { dst := some 112, op := _, type := _, pos := _, after := _, guard := _ }) rfl (fun K hK => ?_) AllReadyH.nil)
              rw [if_pos (by kernel_rfl)]
              refine wp_copy_own _ _ 51 51 (by rfl) 5 Tryz.underlying51 (by kernel_rfl) g jn (N - jn) _ ⟨q, 0, none⟩ L6 cq (by rfl) (by rfl) cur 5 HBU.out.at_ (Lib.byteCells (escB x)) (by rw [Lib.byteCells_length, HL6.out]; exact (Nat.min_eq_left (by omega)).symm) (fun j v hj => ?_) (by rw [Lib.byteCells_length, HL6.out, HBU.out.size]; exact hfit) (one_bytes _) ?_
              · have hj2 := hj
                unfold Lib.byteCells at hj2
                rw [List.getElem?_map] at hj2
                obtain ⟨y, hy1, hy2⟩ := Option.map_eq_some_iff.1 hj2
                rw [← hy2, Addr.add_lit, Nat.zero_add]
                exact HQC.out j y hy1
              rw [Lib.byteCells_length, HL6.out]
              have HBN : Hid (BufAt ((wr.drew).setRow g (partSet cur jn (Lib.byteCells (escB x)))) g N (l ++ escB x) (partSet cur jn (Lib.byteCells (escB x)))) := by
                have h1 : BufAt wr.drew g N l cur := ⟨HBU.out.at_, HBU.out.size, HBU.out.done, HBU.out.le⟩
                have h2 := h1.put (m := escB x) HFIT.out
                rw [HJN.out] at h2
                exact h2
              have HWN : Hid (Below g W1 ((wr.drew).setRow g (partSet cur jn (Lib.byteCells (escB x))))) := below_one_row _ _ _ _ _ (HWR.out.trans (Below.drew (Below.refl _ _))) (Nat.le_refl _)
              refine hK.out _ _ ((World.cell?_of_block (setRow_other _ _ _ _ (by show Rb ≠ g; omega))).trans t1) (fun hSe => ?_)
              generalize (wr.drew).setRow g (partSet cur jn (Lib.byteCells (escB x))) = W5 at HBN HWN hSe ⊢
              clear hK K
              try simp only [Act.put, List.setIfInBounds_toArray, List.set_cons_zero, List.set_cons_succ]
              refine wpAnyH_take (i := 11) (oi := { dst := some 113, op := _, type := _, pos := _, after := _, guard := _ }) (v := ?_) rfl (by kernel_rfl) (by kernel_rfl) (by kernel_rfl) (fun _ _ _ h => h) (Or.inl ⟨by kernel_rfl, ?_⟩) (by assumption) ?_
              rotate_left
              · (intro w hSw; (try dsimp only at hSw); go_simp); all_goals (with_reducible rfl)
              try simp only [Act.put, List.setIfInBounds_toArray, List.set_cons_zero, List.set_cons_succ]
              refine wpAnyH_take (i := 12) (oi := { dst := some 13, op := _, type := _, pos := _, after := _, guard := _ }) (v := ?_) rfl (by kernel_rfl) (by kernel_rfl) (by kernel_rfl) (fun _ _ _ h => h) (Or.inl ⟨by kernel_rfl, ?_⟩) (by assumption) ?_
              rotate_left
              · (intro w hSw; (try dsimp only at hSw); go_simp); all_goals (with_reducible rfl)
              try simp only [Act.put, List.setIfInBounds_toArray, List.set_cons_zero, List.set_cons_succ]
              refine wpAnyH_done (by kernel_rfl) ?_ _
              clear t1 hqg hSe hS0
              go_wp2_with fail
              go_roundg (s.length - (i + 1))
              case measure => omega
              case rel =>
                refine ⟨i + 1, _, by omega, Nat.le_refl _, ?_, by go_num, by rw [HXT.out]; exact HBN.out, HWN.out⟩
                rw [HXT.out, List.length_append, HJN.out, HL6.out]
                have hws : IntKind.i64.wrap ((jn : Int) + (L6 : Int)) = (jn : Int) + (L6 : Int) := Go.wrap_small _ (by omega) (by omega)
                first | rfl | (rw [hws]; rfl) | (congr 1; omega)
            | false =>
              have t1 := HTW.out.no x hrx
              have HEN := Lib.hid (esc_of_not hrx)
              rw [HEN.out] at hfit HFIT
              rw [HEN.out] at HXT
              obtain ⟨jn, hjn⟩ : ∃ jn, l.length = jn := ⟨_, rfl⟩
              rw [hjn] at hfit ⊢
              have HJN := Lib.hid hjn
              have hjz : (jn : Int) < (N : Int) := by simp only [List.length_cons, List.length_nil] at hfit; omega
              have hjz2 : jn < N := by omega
              have hx256 : (x.toNat : Int) < 256 := by omega
              have HPUT : Hid (BufAt (wr.setRow g (partSet cur jn [.int .u8 (x.toNat : Int)])) g N (l ++ [x]) (partSet cur jn [.int .u8 (x.toNat : Int)])) := by
                have h2 := HBU.out.put (m := [x]) HFIT.out
                rw [HJN.out] at h2
                exact h2
              clear hx1 hxi hjn hl hrx hfit
              go_upto_region 30 with (refine wpList_store_cellN (by rfl) 5 _ _ (by rfl) g jn (.int .u8 (x.toNat : Int)) (by rfl) (by rfl) (by rfl) 5 cur (by exact HBU.out.at_) (by rw [HBU.out.size]; exact hjz2) (by kernel_rfl) (fun W => BufAt W g N (l ++ [x]) (partSet cur jn [.int .u8 (x.toNat : Int)]) ∧ Below g W1 W) (by exact ⟨HPUT.out, below_one_row _ _ _ _ _ HWR.out (Nat.le_refl _)⟩) ?_; rintro W5 h5)
              have H5 := Lib.hid h5
              clear h5 t1
              go_wp2_with fail
              go_roundg (s.length - (i + 1))
              case measure => omega
              case rel =>
                refine ⟨i + 1, _, by omega, Nat.le_refl _, ?_, by go_num, by rw [HXT.out]; exact H5.out.1, H5.out.2⟩
                rw [HXT.out, List.length_append, HJN.out]
                first | rfl | (congr 1; simp only [List.length_cons, List.length_nil]; omega)
          · obtain rfl : i = s.length := by omega
            have hge : ¬ (s.length : Int) < (S.size : Int) := by omega
            have HT : Hid (s.take s.length = s) := List.take_length
            rw [HT.out] at HBU
            have HCV : Hid ((convert 51 9 (.slice (some ⟨g, 0, none⟩) N N)).run Tryz.prog wr = .ok (.string ⟨(escL s).toArray⟩) wr) := by
              have h1 := run_convert_bytes_back (P := Tryz.prog) wr 51 9 5 ⟨g, 0, none⟩ N (escL s) Tryz.underlying51 (by kernel_rfl) Tryz.underlying9 (fun j hj => by
                rw [Addr.add_lit, Nat.zero_add, cell_of_heap HBU.out.at_, ← Array.getElem?_toList]
                have h2 := HBU.out.done
                have h3 : (Lib.byteCells (escL s))[j]? = some (.int .u8 ((escL s)[j].toNat : Int)) := by
                  unfold Lib.byteCells
                  rw [List.getElem?_map, List.getElem?_eq_getElem hj]
                  rfl
                rw [← h2, List.getElem?_take, if_pos hj] at h3
                exact h3)
              rw [HNN.out] at h1
              exact h1
            have HFB : Hid (Below w.heap.size w wr) := by
              have h1 := HW.out.trans (HB1.out.mono HW.out.size)
              exact h1.trans (HWR.out.mono (by have := HG.out; have := HW.out.size; omega))
            go_wp2_with (refine wpList_convert_known (by rfl) 51 9 _ (by rfl) (.slice (some ⟨g, 0, none⟩) N N) (.string ⟨(escL s).toArray⟩) (by rfl) HCV.out ?_)
            go_ret
            exact ⟨rfl, HFB.out⟩
end Go.Proofs.YtgmgghbocidibaaGreatDoor
