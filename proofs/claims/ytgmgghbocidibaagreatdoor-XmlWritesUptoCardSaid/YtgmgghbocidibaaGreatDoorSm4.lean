/-
  SEVERAL SMALL TEXTS IN ONE.
-/
import Derived.Test.YtgmgghbocidibaaGreatDoorSm0
import Derived.Test.YtgmgghbocidibaaGreatDoorXmLaw2
import Derived.Test.YtgmgghbocidibaaGreatDoorShelf
import Derived.Shelf.Unicode.ValidAny
import Derived.Deep.MidRow
import Derived.Deep.LoopGhost
/-
  A call of a Go function at an operation: by its contract, without a walk.
-/
namespace Go.Proofs.YtgmgghbocidibaaGreatDoor
open Go.RowKit

theorem wp_call_go {P : Program} {o : Oper} {a : Act} {w : World} {K : Act → World → Prop} {Q : Exit → Act → World → Prop} {f : Nat} {fn : Func} (hf : P.funcs[f]? = some fn) (hn : (fn.name == "runtime.NumGoroutine") = false) (hb : fn.body.isNone = false)
    {xs : List Operand} {tys : Array TypeId}
    (ho : o.op = .call { callee := .value (.func f), args := xs.toArray, argTypes := tys }) {vs : List Value} {R : Ending → World → Prop} (hc : Calls P f vs.toArray w R) (hv : xs.map a.eval = vs)
    (h : ∀ e w', R e w' → ∃ v, e = .returned v ∧ K (a.put o.dst v) w') : o.wp P a w K Q := by
  have hx : (execOp a.eval o).run P w = .ok (.enter f vs.toArray) w := by
    unfold execOp
    simp [ho, resolve, invoke, hv, Act.eval, Deferred.ofValue, callFunc]
    simp [hf]
    have hn' : ¬ fn.name = "runtime.NumGoroutine" := by simpa using hn
    cases hbd : fn.body with
    | none => rw [hbd] at hb; cases hb
    | some b => simp [hn']
  unfold Oper.wp
  rw [hx, Oper.upon_enter]
  refine hc.mono ?_
  intro e w' hR
  obtain ⟨v, rfl, hk⟩ := h e w' hR
  exact hk

end Go.Proofs.YtgmgghbocidibaaGreatDoor

/-
  xml.first, more, knows: characters.
-/
namespace Go.Proofs.YtgmgghbocidibaaGreatDoor
open Go.RowKit Go.Lib

theorem ret_b {a b : Bool} (h : a = true ↔ b = true) : Ending.returned (.bool a) = .returned (.bool b) := by rw [Bool.eq_iff_iff.2 h]
theorem first_bits : ∀ n : Fin 256, (decide (97 ≤ bits .or .u8 (n.val : Int) 32) && decide (bits .or .u8 (n.val : Int) 32 ≤ 122) || decide ((n.val : Int) = 95)) = firstX (UInt8.ofNat n.val) := by decide +kernel
set_option maxHeartbeats 2000000 in
set_option maxRecDepth 100000 in
theorem xfirst_any (b : UInt8) (w : World) : Calls Tryz.prog 49 #[.int .u8 b.toNat] w fun e w' => e = .returned (.bool (firstX b)) ∧ w' = w := by
  have hb := first_bits ⟨b.toNat, UInt8.toNat_lt b⟩
  simp only [UInt8.ofNat_toNat] at hb
  rw [← hb]
  clear hb
  obtain ⟨X, hX⟩ : ∃ X, bits .or .u8 (b.toNat : Int) 32 = X := ⟨_, rfl⟩
  rw [hX]
  go_enter Tryz.func49, Tryz.ntmps49
  by_cases h1 : 97 ≤ X
  · by_cases h2 : X ≤ 122
    · go_wp2_with fail
      go_ret
      exact ⟨ret_b (by first | (simp; done) | (simp; omega)), rfl⟩
    · go_wp2_with fail
      go_ret
      exact ⟨ret_b (by first | (simp; done) | (simp; omega)), rfl⟩
  · go_wp2_with fail
    go_ret
    exact ⟨ret_b (by first | (simp; done) | (simp; omega)), rfl⟩
set_option maxHeartbeats 2000000 in
set_option maxRecDepth 100000 in
theorem xmore_any (b : UInt8) (w : World) : Calls Tryz.prog 52 #[.int .u8 b.toNat] w fun e w' => e = .returned (.bool (moreX b)) ∧ w' = w := by
  have HF := Lib.hid (xfirst_any b w)
  have HM : Hid (moreX b = (firstX b || (decide (48 ≤ (b.toNat : Int)) && decide ((b.toNat : Int) ≤ 57)) || decide ((b.toNat : Int) = 45) || decide ((b.toNat : Int) = 46))) := by
    show _ = _
    unfold moreX
    have e : ∀ n : UInt8, (b = n) ↔ ((b.toNat : Int) = n.toNat) := fun n => ⟨fun h => by rw [h], fun h => UInt8.toNat_inj.1 (by omega)⟩
    have l1 : (48 ≤ b) ↔ (48 ≤ (b.toNat : Int)) := by show (48 : UInt8).toNat ≤ b.toNat ↔ _; rw [show (48 : UInt8).toNat = 48 from rfl]; omega
    have l2 : (b ≤ 57) ↔ ((b.toNat : Int) ≤ 57) := by show b.toNat ≤ (57 : UInt8).toNat ↔ _; rw [show (57 : UInt8).toNat = 57 from rfl]; omega
    simp only [l1, l2, e 45, e 46]
    rfl
  rw [HM.out]
  clear HM
  obtain ⟨f, hf⟩ : ∃ f, firstX b = f := ⟨_, rfl⟩
  rw [hf] at HF ⊢
  clear hf
  go_enter Tryz.func52, Tryz.ntmps52
  go_wp2_with fail
  refine HF.out.mono ?_
  rintro e w1 ⟨rfl, rfl⟩
  cases f with
  | true =>
    go_wp2_with fail
    go_ret
    exact ⟨ret_b (by first | (simp; done) | (simp; omega)), rfl⟩
  | false =>
    by_cases h1 : 48 ≤ (b.toNat : Int)
    · by_cases h2 : (b.toNat : Int) ≤ 57
      · go_wp2_with fail
        go_ret
        exact ⟨ret_b (by first | (simp; done) | (simp; omega)), rfl⟩
      · go_wp2_with fail
        go_ret
        exact ⟨ret_b (by first | (simp; done) | (simp; omega)), rfl⟩
    · by_cases h3 : (b.toNat : Int) = 45
      · go_wp2_with fail
        go_ret
        exact ⟨ret_b (by first | (simp; done) | (simp; omega)), rfl⟩
      · go_wp2_with fail
        go_ret
        exact ⟨ret_b (by first | (simp; done) | (simp; omega)), rfl⟩
set_option maxHeartbeats 2000000 in
set_option maxRecDepth 100000 in
theorem xknows_any (c : Int) (w : World) : Calls Tryz.prog 64 #[.int .i32 c] w fun e w' => e = .returned (.bool (knowsX c)) ∧ w' = w := by
  have HV := Lib.hid (Tryz.utf8_ValidRune c)
  have HK : Hid (knowsX c = (decide (c = 9) || decide (c = 10) || decide (c = 13) || (decide (c ≠ 65534) && decide (c ≠ 65535) && decide (32 ≤ c) && Lib.validRune c))) := by
    show _ = _
    unfold knowsX Lib.validRune
    apply Bool.eq_iff_iff.2
    simp only [Bool.or_eq_true, Bool.and_eq_true, decide_eq_true_eq]
    omega
  rw [HK.out]
  clear HK
  obtain ⟨v, hv⟩ : ∃ v, Lib.validRune c = v := ⟨_, rfl⟩
  rw [hv] at HV ⊢
  clear hv
  go_enter Tryz.func64, Tryz.ntmps64
  by_cases h1 : c = 9
  · subst h1
    go_wp2_with fail
    go_ret
    exact ⟨ret_b (by first | (simp; done) | (simp; omega)), rfl⟩
  · by_cases h2 : c = 10
    · subst h2
      go_wp2_with fail
      go_ret
      exact ⟨ret_b (by first | (simp; done) | (simp; omega)), rfl⟩
    · by_cases h3 : c = 13
      · subst h3
        go_wp2_with fail
        go_ret
        exact ⟨ret_b (by first | (simp; done) | (simp; omega)), rfl⟩
      · by_cases h4 : c = 65534
        · subst h4
          go_wp2_with fail
          go_ret
          exact ⟨ret_b (by first | (simp; done) | (simp; omega)), rfl⟩
        · by_cases h5 : c = 65535
          · subst h5
            go_wp2_with fail
            go_ret
            exact ⟨ret_b (by first | (simp; done) | (simp; omega)), rfl⟩
          · have e1 : (c == 9) = false := beq_eq_false_iff_ne.2 h1
            have e2 : (c == 10) = false := beq_eq_false_iff_ne.2 h2
            have e3 : (c == 13) = false := beq_eq_false_iff_ne.2 h3
            have e4 : (c == 65534) = false := beq_eq_false_iff_ne.2 h4
            have e5 : (c == 65535) = false := beq_eq_false_iff_ne.2 h5
            by_cases h6 : 32 ≤ c
            · go_wp2_with fail
              refine (HV.out w).mono ?_
              rintro e w1 ⟨rfl, rfl⟩
              go_wp2_with fail
              go_ret
              exact ⟨ret_b (by cases v <;> simp <;> omega), rfl⟩
            · go_wp2_with fail
              go_ret
              exact ⟨ret_b (by first | (simp; done) | (simp; omega)), rfl⟩
end Go.Proofs.YtgmgghbocidibaaGreatDoor

/-
  utf8.ValidString, by the library's own contract. (Printed by wip/gen/xmvalid.py.)
-/
namespace Go.Proofs.YtgmgghbocidibaaGreatDoor
open Go.RowKit

def laysValid_ren : Go.Shelf.Ren := ⟨fun | 196 => 68 | 259 => 84 | n => n, fun | 0 => 0 | 3 => 3 | 4 => 4 | 5 => 5 | 9 => 9 | 12 => 12 | 46 => 136 | 53 => 164 | 119 => 132 | 138 => 134 | 139 => 135 | n => n, fun | 3 => 1 | 4 => 2 | n => n⟩
theorem laysValid : Go.Proofs.Lays.n196 Tryz.prog laysValid_ren := {
  mixed := by kernel_rfl
  f196 := Tryz.func68.trans (congrArg some (by kernel_rfl))
  f259 := Tryz.func84.trans (congrArg some (by kernel_rfl))
  t0 := Tryz.underlying0
  a0 := Tryz.isAgg0
  z0 := Tryz.sizeOf0
  v0 := Tryz.zeroValue0
  t3 := Tryz.underlying3
  a3 := Tryz.isAgg3
  z3 := Tryz.sizeOf3
  v3 := Tryz.zeroValue3
  t4 := Tryz.underlying4
  a4 := Tryz.isAgg4
  z4 := Tryz.sizeOf4
  v4 := Tryz.zeroValue4
  t5 := Tryz.underlying5
  a5 := Tryz.isAgg5
  z5 := Tryz.sizeOf5
  v5 := Tryz.zeroValue5
  t9 := Tryz.underlying9
  a9 := Tryz.isAgg9
  z9 := Tryz.sizeOf9
  v9 := Tryz.zeroValue9
  t12 := Tryz.underlying12
  a12 := Tryz.isAgg12
  z12 := Tryz.sizeOf12
  v12 := Tryz.zeroValue12
  t46 := Tryz.underlying136
  a46 := Tryz.isAgg136
  z46 := Tryz.sizeOf136
  v46 := Tryz.zeroValue136
  t53 := Tryz.underlying164
  a53 := Tryz.isAgg164
  z53 := Tryz.sizeOf164
  v53 := Tryz.zeroValue164
  t119 := Tryz.underlying132
  a119 := Tryz.isAgg132
  z119 := Tryz.sizeOf132
  t138 := Tryz.underlying134
  a138 := Tryz.isAgg134
  z138 := Tryz.sizeOf134
  v138 := Tryz.zeroValue134
  t139 := Tryz.underlying135
  a139 := Tryz.isAgg135
  z139 := Tryz.sizeOf135
  v139 := Tryz.zeroValue135
  g3 := by kernel_rfl
  g4 := by kernel_rfl }
theorem validString_any (s : ByteArray) (w : World) (hs : s.size ≤ 9223372036854775807) (hT : Lib.Utf8Tabs 1 2 w) :
    Calls Tryz.prog 68 #[.string s] w fun e w' => e = .returned (.bool (Lib.validD s.data.toList)) ∧ Below w.heap.size w w' := Any.utf8_ValidString laysValid s w hs hT
end Go.Proofs.YtgmgghbocidibaaGreatDoor

/-
  xml.plain: is a text of characters that XML knows?
-/
namespace Go.Proofs.YtgmgghbocidibaaGreatDoor
open Go.RowKit Go.Lib

def plainD : Nat → Bs → Bool
  | 0, _ => true
  | n + 1, l => if l = [] then true else okX l && plainD n (l.drop (decodeL l).2)
def plainX (l : Bs) : Bool := plainD l.length l
theorem plainD_iff : ∀ (n : Nat) (l : Bs), l.length ≤ n → (plainD n l = true ↔ Plain l)
  | 0, l, h => by
    obtain rfl := List.eq_nil_of_length_eq_zero (Nat.le_zero.1 h)
    exact ⟨fun _ => .nil, fun _ => rfl⟩
  | n + 1, l, h => by
    unfold plainD
    by_cases hl : l = []
    · rw [if_pos hl]
      subst hl
      exact ⟨fun _ => .nil, fun _ => rfl⟩
    · rw [if_neg hl]
      have hw := decodeL_width l
      have hp : 0 < l.length := List.length_pos_iff.2 hl
      have ih := plainD_iff n (l.drop (decodeL l).2) (by rw [List.length_drop]; omega)
      rw [Bool.and_eq_true, ih]
      constructor
      · rintro ⟨h1, h2⟩
        exact .cons l hl h1 h2
      · intro h
        cases h with
        | nil => exact absurd rfl hl
        | cons _ _ h1 h2 => exact ⟨h1, h2⟩
theorem plainX_iff (l : Bs) : plainX l = true ↔ Plain l := plainD_iff _ _ (Nat.le_refl _)
theorem plain_two (s : ByteArray) : ∀ (n pos : Nat), (validGoD n (s.data.toList.drop pos) && !(decide (0 ≤ idxFuncFrom (fun x => !knowsX x) true s n pos))) = plainD n (s.data.toList.drop pos)
  | 0, pos => rfl
  | n + 1, pos => by
    unfold validGoD idxFuncFrom plainD
    rw [← decodeL_drop]
    by_cases hl : s.data.toList.drop pos = []
    · have hlt : ¬ pos < s.size := by
        have h1 := List.drop_eq_nil_iff.1 hl
        rw [Array.length_toList] at h1
        exact Nat.not_lt_of_le h1
      rw [if_pos hl, if_pos hl, if_neg hlt]
      rfl
    · have hlt : pos < s.size := by
        have h1 : ¬ s.data.toList.length ≤ pos := fun h => hl (List.drop_eq_nil_iff.2 h)
        rw [Array.length_toList] at h1
        exact Nat.lt_of_not_le h1
      rw [if_neg hl, if_neg hl, if_pos hlt]
      have ih := plain_two s n (pos + (decodeL (s.data.toList.drop pos)).2)
      rw [← List.drop_drop] at ih
      unfold okX
      generalize decodeL (s.data.toList.drop pos) = d at *
      by_cases hd : d.1 = 65533 ∧ d.2 = 1
      · rw [if_pos hd]
        simp [hd.1, hd.2]
      · rw [if_neg hd]
        cases hk : knowsX d.1 with
        | false => simp
        | true =>
          simp only [Bool.not_true, Bool.false_eq_true, if_false, Bool.and_true]
          rw [ih]
          have : (!(decide (d.1 = 65533) && decide (d.2 = 1))) = true := by
            rw [Bool.not_eq_true', Bool.and_eq_false_iff, decide_eq_false_iff_not, decide_eq_false_iff_not]
            rcases Classical.not_and_iff_not_or_not.1 hd with h | h
            · exact .inl h
            · exact .inr h
          rw [this, Bool.true_and]

theorem xunknown_grows (w : World) : PredGrows Tryz.prog 70 #[] (fun x => !knowsX x) w := fun W x _ _ => by
  show Calls Tryz.prog 70 #[.int .i32 x] W _
  have HK := Lib.hid (xknows_any (x : Int) W)
  obtain ⟨k, hk⟩ : ∃ k, knowsX (x : Int) = k := ⟨_, rfl⟩
  simp only [hk] at HK ⊢
  clear hk
  go_enter Tryz.func70, Tryz.ntmps70
  go_wp2_with fail
  refine HK.out.mono ?_
  rintro e w1 ⟨rfl, rfl⟩
  go_wp2_with fail
  go_ret
  exact ⟨rfl, Below.refl _ _⟩
set_option maxHeartbeats 2000000 in
set_option maxRecDepth 100000 in
theorem xplain_any (s : ByteArray) (w : World) (hs : s.size ≤ 140737488355328) (hT : Utf8Tabs 1 2 w) :
    Calls Tryz.prog 53 #[.string s] w fun e w' => e = .returned (.bool (plainX s.data.toList)) ∧ Below w.heap.size w w' := by
  have HV := Lib.hid (validString_any s w (by omega) hT)
  have HC : Hid (∀ W, _) := fun W => Tryz.strings_ContainsFunc_grows 70 #[] (fun args w => by rfl) (fun x => !knowsX x) s W (xunknown_grows W)
  have HP : Hid (plainX s.data.toList = (validD s.data.toList && !(decide (0 ≤ idxFunc (fun x => !knowsX x) true s)))) := by
    show _ = _
    have := plain_two s s.size 0
    rw [List.drop_zero] at this
    unfold plainX validD idxFunc
    rw [Array.length_toList]
    exact this.symm
  rw [HP.out]
  clear HP
  generalize validD s.data.toList = v at *
  generalize decide (0 ≤ idxFunc (fun x => !knowsX x) true s) = c at *
  go_enter Tryz.func53, Tryz.ntmps53
  go_wp2_with fail
  refine HV.out.mono ?_
  rintro e w1 ⟨rfl, hb1⟩
  have B1 := Lib.hid hb1
  clear hb1
  cases v with
  | false =>
    go_wp2_with fail
    go_ret
    exact ⟨rfl, B1.out⟩
  | true =>
    go_wp2_with fail
    refine (HC.out w1).mono ?_
    rintro e w2 ⟨rfl, hb2⟩
    have B2 := Lib.hid (B1.out.trans (hb2.mono B1.out.size))
    clear hb2
    go_wp2_with fail
    go_ret
    exact ⟨rfl, B2.out⟩
end Go.Proofs.YtgmgghbocidibaaGreatDoor

/-
  What a call leaves: but for some blocks, and new ones, the world is as it was.
-/
namespace Go.Proofs.YtgmgghbocidibaaGreatDoor
open Go.RowKit

/-- but for the blocks M, and new ones, the world is as it was -/
structure Chg (w w' : World) (M : Nat → Prop) : Prop where
  os : w'.os = w.os
  tape : w'.tape = w.tape
  output : w'.output = w.output
  size : w.heap.size ≤ w'.heap.size
  block : ∀ k, k < w.heap.size → ¬ M k → w'.heap[k]? = w.heap[k]?

theorem Chg.refl (w : World) (M : Nat → Prop) : Chg w w M := ⟨rfl, rfl, rfl, Nat.le_refl _, fun _ _ _ => rfl⟩
theorem Chg.trans {a b c : World} {M : Nat → Prop} (h : Chg a b M) (k : Chg b c M) : Chg a c M :=
  ⟨k.os.trans h.os, k.tape.trans h.tape, k.output.trans h.output, Nat.le_trans h.size k.size, fun i hi hm => (k.block i (Nat.lt_of_lt_of_le hi h.size) hm).trans (h.block i hi hm)⟩
theorem Chg.mono {w w' : World} {M N : Nat → Prop} (h : Chg w w' M) (hm : ∀ k, k < w.heap.size → M k → N k) : Chg w w' N := ⟨h.os, h.tape, h.output, h.size, fun k hk hn => h.block k hk (fun x => hn (hm k hk x))⟩
theorem Chg.of_below {w w' : World} {M : Nat → Prop} (h : Below w.heap.size w w') : Chg w w' M := ⟨h.os, h.tape, h.output, h.size, fun k hk _ => h.block k hk⟩
theorem Chg.below {B : Nat} {w w' : World} {M : Nat → Prop} (h : Chg w w' M) (hB : B ≤ w.heap.size) (hm : ∀ k, M k → B ≤ k) : Below B w w' := ⟨h.os, h.tape, h.output, h.size, fun k hk => h.block k (by omega) (fun x => by have := hm k x; omega)⟩
theorem Chg.grown {w w' : World} {row : Option Nat} (h : w.grownBy w' row) : Chg w w' (fun b => some b = row) := ⟨h.os, h.tape, h.output, h.size, h.block⟩
theorem Chg.set (w : World) (a : Addr) (v : Value) : Chg w (w.setCell a v) (fun b => b = a.block) := ⟨rfl, rfl, rfl, by simp [World.setCell], fun k _ hk => Below.heap_setCell _ _ _ _ hk⟩

end Go.Proofs.YtgmgghbocidibaaGreatDoor

/-
  xml.right, isRight.
-/
namespace Go.Proofs.YtgmgghbocidibaaGreatDoor
open Go.RowKit Go.Lib

mutual
theorem treeInd {P : Tree → Prop} (h : ∀ n t ks, (∀ k ∈ ks, P k) → P (.node n t ks)) : ∀ t, P t
  | .node n t ks => h n t ks (treeInds h ks)
theorem treeInds {P : Tree → Prop} (h : ∀ n t ks, (∀ k ∈ ks, P k) → P (.node n t ks)) : ∀ ks : List Tree, ∀ k ∈ ks, P k
  | [], _, hk => by cases hk
  | x :: ks, k, hk => (List.mem_cons.1 hk).elim (fun e => e ▸ treeInd h x) (fun hk => treeInds h ks k hk)
end
mutual
/-- is an element right, with so many around it; how many may still come -/
def rightX : Tree → Nat → Int → Bool × Int
  | .node n t ks, ar, lf =>
    if lf < 1 ∨ ar = 20 ∨ n.data.toList = [] ∨ 100 < n.data.toList.length ∨ firstX (n.data.toList.headD 0) = false ∨ (0 < ks.length ∧ t.data.toList ≠ []) then (false, lf - 1)
    else if n.data.toList.any (fun b => !moreX b) = true ∨ plainX t.data.toList = false then (false, lf - 1)
    else rightKsX ks (ar + 1) (lf - 1)
def rightKsX : List Tree → Nat → Int → Bool × Int
  | [], _, lf => (true, lf)
  | k :: ks, ar, lf => if (rightX k ar lf).1 then rightKsX ks ar (rightX k ar lf).2 else (false, (rightX k ar lf).2)
end
theorem rightX_bd : ∀ (t : Tree) (ar : Nat) (lf : Int), 0 ≤ lf → -1 ≤ (rightX t ar lf).2 ∧ (rightX t ar lf).2 ≤ lf ∧ ((rightX t ar lf).1 = true → 0 ≤ (rightX t ar lf).2) := by
  apply treeInd
  intro n t ks ih ar lf h0
  have hk : ∀ (ks' : List Tree) (lf : Int), (∀ k ∈ ks', k ∈ ks) → 0 ≤ lf → -1 ≤ (rightKsX ks' (ar + 1) lf).2 ∧ (rightKsX ks' (ar + 1) lf).2 ≤ lf ∧ ((rightKsX ks' (ar + 1) lf).1 = true → 0 ≤ (rightKsX ks' (ar + 1) lf).2) := by
    intro ks'
    induction ks' with
    | nil => intro lf _ h; simp only [rightKsX]; exact ⟨by omega, by omega, fun _ => h⟩
    | cons k ks' ihk =>
      intro lf hm h
      obtain ⟨h1, h2, h3⟩ := ih k (hm k (by simp)) (ar + 1) lf h
      simp only [rightKsX]
      split
      · rename_i c
        obtain ⟨h4, h5, h6⟩ := ihk (rightX k (ar + 1) lf).2 (fun x hx => hm x (by simp [hx])) (h3 c)
        exact ⟨h4, by omega, h6⟩
      · exact ⟨h1, h2, fun h => by simp at h⟩
  simp only [rightX]
  split
  · simp only; exact ⟨by omega, by omega, fun h => by simp at h⟩
  · split
    · simp only; exact ⟨by omega, by omega, fun h => by simp at h⟩
    · obtain ⟨h1, h2, h3⟩ := hk ks (lf - 1) (fun _ h => h) (by omega)
      exact ⟨h1, by omega, h3⟩
theorem rightKsX_at {ks : List Tree} {i : Nat} {k : Tree} (h : ks[i]? = some k) (ar : Nat) (lf : Int) :
    rightKsX (ks.drop i) ar lf = if (rightX k ar lf).1 then rightKsX (ks.drop (i + 1)) ar (rightX k ar lf).2 else (false, (rightX k ar lf).2) := by
  have hlt := (List.getElem?_eq_some_iff.1 h).1
  rw [List.drop_eq_getElem_cons hlt, (List.getElem?_eq_some_iff.1 h).2]
  rfl

/-! ### how it lies -/
/-- how many may still come -/
def LeftAt (w : World) (gl : Nat) (lf : Int) : Prop := w.heap[gl]? = some (.cells #[.int .i64 lf] 3 (0, 0))
theorem LeftAt.cell {w : World} {gl : Nat} {lf : Int} (h : LeftAt w gl lf) : w.cell? ⟨gl, 0, none⟩ = some (.int .i64 lf) := cell_of_heap h
mutual
theorem TreeIn.kept {w w' : World} (hb : ∀ b o v, w.cell? ⟨b, o, none⟩ = some v → (∀ k n, v ≠ .int k n) → w'.cell? ⟨b, o, none⟩ = some v) : ∀ (t : Tree) (x y z : Value), TreeIn w t x y z → TreeIn w' t x y z
  | .node n t ks, x, y, z, h => by
    unfold TreeIn at *
    obtain ⟨h1, h2, h3, h4, h5, a, c, h6, h7⟩ := h
    exact ⟨h1, h2, h3, h4, h5, a, c, h6, KidsIn.kept hb ks a 0 h7⟩
theorem KidsIn.kept {w w' : World} (hb : ∀ b o v, w.cell? ⟨b, o, none⟩ = some v → (∀ k n, v ≠ .int k n) → w'.cell? ⟨b, o, none⟩ = some v) : ∀ (ks : List Tree) (a : Option Addr) (i : Nat), KidsIn w ks a i → KidsIn w' ks a i
  | [], _, _, _ => by unfold KidsIn; trivial
  | k :: ks, a, i, h => by
    unfold KidsIn at *
    obtain ⟨⟨b, off, x, y, z, h1, h2, h3, h4, h5⟩, h6⟩ := h
    obtain ⟨rfl, rfl, _, _, _, a', c', rfl, _⟩ := h5.cells
    exact ⟨⟨b, off, _, _, _, h1, hb _ _ _ h2 (fun _ _ e => by cases e), hb _ _ _ h3 (fun _ _ e => by cases e), hb _ _ _ h4 (fun _ _ e => by cases e), TreeIn.kept hb k _ _ _ h5⟩, KidsIn.kept hb ks a (i + 1) h6⟩
end
theorem Chg.cell {A B : World} {M : Nat → Prop} (h : Chg A B M) {b o : Nat} {u : Value} (hm : ¬ M b) (hu : A.cell? ⟨b, o, none⟩ = some u) : B.cell? ⟨b, o, none⟩ = some u := by
  rw [World.cell?_of_block (w := A) (h.block b (World.block_lt_of_cell? A _ hu) hm)]; exact hu
theorem LeftAt.keep {w w' : World} {gl : Nat} {lf : Int} (h : LeftAt w gl lf) (hc : Chg w w' (fun b => b = gl)) : ∀ b o v, w.cell? ⟨b, o, none⟩ = some v → (∀ k n, v ≠ .int k n) → w'.cell? ⟨b, o, none⟩ = some v := fun b o v hv hn => by
  by_cases hb : b = gl
  · subst hb
    rw [cell_of_heap h] at hv
    cases o with
    | zero => simp at hv; exact absurd hv.symm (hn _ _)
    | succ o => simp at hv
  · exact hc.cell (by exact hb) hv
def Tabs (w : World) : Prop := Utf8Tabs 1 2 w
theorem Tabs.kept {w w' : World} (h : Tabs w) (hb : ∀ b o v, b < 8 → w.cell? ⟨b, o, none⟩ = some v → w'.cell? ⟨b, o, none⟩ = some v) : Tabs w' :=
  ⟨fun c hc => hb _ _ _ (by decide) (h.1 c hc), fun i hi => ⟨hb _ _ _ (by decide) (h.2 i hi).1, hb _ _ _ (by decide) (h.2 i hi).2⟩⟩
theorem Tabs.later {w w' : World} (h : Tabs w) (hb : Below w.heap.size w w') : Tabs w' := h.kept fun _ _ _ _ hv => cell_later hb hv
theorem Tabs.chg {w w' : World} {gl : Nat} (h : Tabs w) (hc : Chg w w' (fun b => b = gl)) (hg : 8 ≤ gl) : Tabs w' := h.kept fun b o v hb hv => by
  rw [World.cell?_of_block (w := w) (hc.block b (World.block_lt_of_cell? w _ hv) (by omega))]; exact hv
theorem below_bytesW (w : World) (e : TypeId) (s : ByteArray) : Below w.heap.size w (Lib.bytesWorld w e s) := by
  refine ⟨?_, ?_, ?_, ?_, fun k hk => Lib.bytesWorld_at_old w e s k hk⟩
  · unfold Lib.bytesWorld World.freeze; split <;> rfl
  · unfold Lib.bytesWorld World.freeze; split <;> rfl
  · unfold Lib.bytesWorld World.freeze; split <;> rfl
  · rw [Lib.bytesWorld_size]; omega
/-- bytes of a text, in a row of their own -/
theorem wpList_convert_bytes {P : Program} {ops : Array Oper} {rest : List Oper} {o : Oper} {a : Act} {w : World} {Q : Exit → Act → World → Prop} (hgd : o.guard = none) (src dst : TypeId) (x : Operand) (ho : o.op = .convert src dst x)
    (e : TypeId) (hs : P.underlying src = some .string) (hd : P.underlying dst = some (.slice e)) (he : P.underlying e = some (.int .u8)) (l : Bs) (hx : a.eval x = .string ⟨l.toArray⟩)
    (h : ∀ cap W, Below w.heap.size w W → (∀ j, j < l.length → W.cell? ⟨w.heap.size, 0 + j, none⟩ = some (.int .u8 (l.getD j 0).toNat)) → wpList P ops Q rest (a.put o.dst (.slice (some ⟨w.heap.size, 0, none⟩) l.length cap)) W) : wpList P ops Q (o :: rest) a w :=
  wpList_plain hgd fun _ hK => by
    unfold Oper.wp execOp
    simp only [ho, hx, Sem.run_bind, Sem.run_pure, Result.andThen_ok, Lib.run_convert_string_bytes w src dst e ⟨l.toArray⟩ hs hd he]
    exact hK _ _ (h _ _ (below_bytesW w e _) (fun j hj => by rw [Nat.zero_add]; exact Lib.bytesWorld_cell w e ⟨l.toArray⟩ j hj))
def encU8 (b : UInt8) : Value := .int .u8 b.toNat
theorem xnotmore_at (w : World) : PredAt Tryz.prog 51 #[] encU8 (fun b => !moreX b) w := fun W b _ => by
  show Calls Tryz.prog 51 #[.int .u8 b.toNat] W _
  have HK := Lib.hid (xmore_any b W)
  obtain ⟨k, hk⟩ : ∃ k, moreX b = k := ⟨_, rfl⟩
  simp only [hk] at HK ⊢
  clear hk
  go_enter Tryz.func51, Tryz.ntmps51
  go_wp2_with fail
  refine HK.out.mono ?_
  rintro e w1 ⟨rfl, rfl⟩
  go_wp2_with fail
  go_ret
  exact ⟨rfl, 0, rfl⟩
def RightOut (r : Bool × Int) (gl : Nat) (w : World) (e : Ending) (w' : World) : Prop := e = .returned (.bool r.1) ∧ LeftAt w' gl r.2 ∧ Chg w w' (fun b => b = gl)
end Go.Proofs.YtgmgghbocidibaaGreatDoor
