/-
  SEVERAL SMALL TEXTS IN ONE.
-/
import Derived.Test.YtgmgghbocidibaaGreatDoorSm0
import Derived.Lib.ItoaMem
import Derived.Test.YtgmgghbocidibaaGreatDoorXmInt
import Derived.Lib.IfaceNeq
import Derived.Lib.AppendStr
/-
  What the listed package-level variables hold, as far as the walks want it; kept.
-/
namespace Go.Proofs.YtgmgghbocidibaaGreatDoor
open Go.RowKit

/-- what the listed variables hold, as far as the walks want it -/
structure Glob (w : World) : Prop where
  size : 6 ≤ w.heap.size
  tz : w.cell? ⟨7, 15, none⟩ = some (.int .u8 4)
  pow : Lib.TabIs Tryz.prog w "internal/strconv.uint64pow10" .u64 Lib.pow10Tab
  esyn : ∃ te pe, w.cell? ⟨3, 0, none⟩ = some (.iface te pe)
  eran : ∃ te pe, w.cell? ⟨4, 0, none⟩ = some (.iface te pe)

theorem Glob.later {w w' : World} (h : Glob w) (hb : Below w.heap.size w w') : Glob w' :=
  ⟨Nat.le_trans h.size hb.size, cell_later hb h.tz, var?_below (g := 5) hb (by kernel_rfl) (by have := h.size; omega) h.pow,
    by obtain ⟨a, b, c⟩ := h.esyn; exact ⟨a, b, cell_later hb c⟩, by obtain ⟨a, b, c⟩ := h.eran; exact ⟨a, b, cell_later hb c⟩⟩

end Go.Proofs.YtgmgghbocidibaaGreatDoor

/-
  strconv.ParseInt at base 10 and 16, bit size 32.
-/
namespace Go.Proofs.YtgmgghbocidibaaGreatDoor
open Go.RowKit Go.Lib

theorem strHead (c : UInt8) (r : List UInt8) : (⟨(c :: r).toArray⟩ : ByteArray)[0]'(by simp [ByteArray.size]) = c := by simp [ByteArray.getElem_eq_getElem_data]
theorem dig_sign : ∀ n : Fin 256, digX 16 (UInt8.ofNat n.val) = true → (n.val : Int) ≠ 43 ∧ (n.val : Int) ≠ 45 := by decide +kernel
theorem dig_up (c : UInt8) (h : digX 10 c = true) : digX 16 c = true := by
  have h1 := dig10_at ⟨c.toNat, c.toNat_lt⟩
  simp only [UInt8.ofNat_toNat] at h1
  exact (h1 h).1

set_option maxHeartbeats 4000000 in
set_option maxRecDepth 100000 in
theorem iParseInt_10 (c : UInt8) (r : Bs) (h7 : (c :: r).length ≤ 7) (hd : ∀ x ∈ c :: r, digX 10 x = true) (w : World) :
    Calls Tryz.prog 100 #[.string ⟨(c :: r).toArray⟩, .int .i64 10, .int .i64 32] w fun e w' => e = .returned (.tuple #[.int .i64 (numX 10 (c :: r) : Int), .nilIface]) ∧ Below w.heap.size w w' := by
  have hs := dig_sign ⟨c.toNat, c.toNat_lt⟩ (by simp only [UInt8.ofNat_toNat]; exact dig_up _ (hd c (by simp)))
  have h1 : ((c.toNat : Int) == 43) = false := beq_eq_false_iff_ne.2 hs.1
  have h2 : ((c.toNat : Int) == 45) = false := beq_eq_false_iff_ne.2 hs.2
  have hh := strHead c r
  have HU := Lib.hid (fun W => parseUint_10 (c :: r) (by simp) h7 hd W)
  have hv1 : (numX 10 (c :: r) : Int) < 268435456 := by
    have := numX_small (base := 10) (by omega) (c :: r) h7 (fun x hx => by
      have k1 := dig10_at ⟨x.toNat, x.toNat_lt⟩
      have k2 := dig_at ⟨x.toNat, x.toNat_lt⟩
      simp only [UInt8.ofNat_toNat] at k1 k2
      exact (k1 (hd x hx)).2.2)
    omega
  have hv0 : 0 ≤ (numX 10 (c :: r) : Int) := by omega
  obtain ⟨v, hv⟩ : ∃ v : Int, (numX 10 (c :: r) : Int) = v := ⟨_, rfl⟩
  rw [hv] at hv0 hv1 HU ⊢
  clear hs h7 hd hv
  go_enter Tryz.func100, Tryz.ntmps100
  go_wp2_with fail
  refine (HU.out _).mono ?_
  rintro e w1 ⟨rfl, hb1⟩
  have B1 := Lib.hid hb1
  clear hb1
  go_wp2
  go_ret2
  exact ⟨rfl, B1.out⟩
set_option maxHeartbeats 4000000 in
set_option maxRecDepth 100000 in
theorem xparseInt_10 (l : Bs) (hne : l ≠ []) (h7 : l.length ≤ 7) (hd : ∀ x ∈ l, digX 10 x = true) (w : World) :
    Calls Tryz.prog 79 #[.string ⟨l.toArray⟩, .int .i64 10, .int .i64 32] w fun e w' => e = .returned (.tuple #[.int .i64 (numX 10 l : Int), .nilIface]) ∧ Below w.heap.size w w' := by
  obtain ⟨c, r, rfl⟩ : ∃ c r, l = c :: r := by cases l with | nil => exact absurd rfl hne | cons c r => exact ⟨c, r, rfl⟩
  have HU := Lib.hid (fun W => iParseInt_10 c r h7 hd W)
  clear h7 hd hne
  go_enter Tryz.func79, Tryz.ntmps79
  go_wp2_with fail
  refine (HU.out _).mono ?_
  rintro e w1 ⟨rfl, hb1⟩
  have B1 := Lib.hid hb1
  clear hb1
  go_wp2
  go_ret2
  exact ⟨rfl, B1.out⟩

set_option maxHeartbeats 4000000 in
set_option maxRecDepth 100000 in
theorem iParseInt_16 (c : UInt8) (r : Bs) (h7 : (c :: r).length ≤ 7) (hd : ∀ x ∈ c :: r, digX 16 x = true) (w : World) :
    Calls Tryz.prog 100 #[.string ⟨(c :: r).toArray⟩, .int .i64 16, .int .i64 32] w fun e w' => e = .returned (.tuple #[.int .i64 (numX 16 (c :: r) : Int), .nilIface]) ∧ Below w.heap.size w w' := by
  have hs := dig_sign ⟨c.toNat, c.toNat_lt⟩ (by simp only [UInt8.ofNat_toNat]; exact hd c (by simp))
  have h1 : ((c.toNat : Int) == 43) = false := beq_eq_false_iff_ne.2 hs.1
  have h2 : ((c.toNat : Int) == 45) = false := beq_eq_false_iff_ne.2 hs.2
  have hh := strHead c r
  have HU := Lib.hid (fun W => parseUint_16 (c :: r) (by simp) h7 hd W)
  have hv1 : (numX 16 (c :: r) : Int) < 268435456 := by
    have := numX_small (base := 16) (by omega) (c :: r) h7 (fun x hx => by
      have k1 := dig10_at ⟨x.toNat, x.toNat_lt⟩
      have k2 := dig_at ⟨x.toNat, x.toNat_lt⟩
      simp only [UInt8.ofNat_toNat] at k1 k2
      exact (k2 (hd x hx)).2)
    omega
  have hv0 : 0 ≤ (numX 16 (c :: r) : Int) := by omega
  obtain ⟨v, hv⟩ : ∃ v : Int, (numX 16 (c :: r) : Int) = v := ⟨_, rfl⟩
  rw [hv] at hv0 hv1 HU ⊢
  clear hs h7 hd hv
  go_enter Tryz.func100, Tryz.ntmps100
  go_wp2_with fail
  refine (HU.out _).mono ?_
  rintro e w1 ⟨rfl, hb1⟩
  have B1 := Lib.hid hb1
  clear hb1
  go_wp2
  go_ret2
  exact ⟨rfl, B1.out⟩
set_option maxHeartbeats 4000000 in
set_option maxRecDepth 100000 in
theorem xparseInt_16 (l : Bs) (hne : l ≠ []) (h7 : l.length ≤ 7) (hd : ∀ x ∈ l, digX 16 x = true) (w : World) :
    Calls Tryz.prog 79 #[.string ⟨l.toArray⟩, .int .i64 16, .int .i64 32] w fun e w' => e = .returned (.tuple #[.int .i64 (numX 16 l : Int), .nilIface]) ∧ Below w.heap.size w w' := by
  obtain ⟨c, r, rfl⟩ : ∃ c r, l = c :: r := by cases l with | nil => exact absurd rfl hne | cons c r => exact ⟨c, r, rfl⟩
  have HU := Lib.hid (fun W => iParseInt_16 c r h7 hd W)
  clear h7 hd hne
  go_enter Tryz.func79, Tryz.ntmps79
  go_wp2_with fail
  refine (HU.out _).mono ?_
  rintro e w1 ⟨rfl, hb1⟩
  have B1 := Lib.hid hb1
  clear hb1
  go_wp2
  go_ret2
  exact ⟨rfl, B1.out⟩

set_option maxHeartbeats 4000000 in
set_option maxRecDepth 100000 in
/-- .. at no digits: an error -/
theorem xparseInt_nil (base : Int) (w : World) (hg : Glob w) :
    Calls Tryz.prog 79 #[.string ⟨#[]⟩, .int .i64 base, .int .i64 32] w fun e w' => (∃ N, e = .returned (.tuple #[.int .i64 0, .iface 185 (.pointer (some ⟨N, 0, none⟩))])) ∧ Below w.heap.size w w' := by
  have HU := Lib.hid (fun W => Tryz.internal_strconv_ParseInt_empty base 32 W)
  obtain ⟨te, pe, hv⟩ := hg.esyn
  clear hg
  go_enter Tryz.func79, Tryz.ntmps79
  go_wp2_with fail
  refine (HU.out _).mono ?_
  rintro e w1 ⟨rfl, rfl⟩
  go_wp2_with fail
  refine (Tryz.strconv_toError_syntax _ ⟨#[]⟩ _ _ _ _ (by decide) hv (.inr ⟨te, pe, rfl⟩)).mono ?_
  rintro e w2 ⟨N, rfl, _, _, hb⟩
  have B2 := Lib.hid hb
  clear hb hv
  go_wp2
  go_ret2
  exact ⟨⟨N, rfl⟩, B2.out⟩
end Go.Proofs.YtgmgghbocidibaaGreatDoor

/-
  append of a text onto a row of bytes of the call's own: and where the new row lies.
-/
namespace Go.Proofs.YtgmgghbocidibaaGreatDoor
open Go.RowKit Go.Lib

section
variable {P : Program} (w : World)

theorem run_append_string_at (base : Nat) (t u ty e : TypeId) (i : TypeInfo) (ht : P.underlying t = some (.slice e)) (hu : P.underlying u = some .string) (hi : P.info? e = some i) (hz : i.zero = some (.int .u8 0))
    (hsize : i.size = 1) (hby : i.bytes = 1)
    (v : Value) (n : Nat) (xs : List Value) (hown : w.ownsRow base e 1 v n xs) (s : ByteArray)
    (h63 : n + s.size ≤ maxLen) (hbytes : n + s.size ≤ 140737488355328) (hbase : base ≤ w.heap.size) :
    ∃ v' w', (Builtin.append_ #[t, u] ty #[v, .string s]).run P w = .ok v' w' ∧ w'.ownsRow base e 1 v' (n + s.size) (xs ++ strCells s) ∧ w.grownBy w' v.ownBlock ∧
      (v'.ownBlock = v.ownBlock ∨ ∀ g, v'.ownBlock = some g → w.heap.size ≤ g) := by
  obtain ⟨v', w', hr, h2, h3, _⟩ := run_append_own_string (P := P) w base t u ty e i ht hu hi hz hsize hby v n xs hown s h63 hbytes hbase
  refine ⟨v', w', hr, h2, h3, ?_⟩
  rcases hown.2 with ⟨rfl, rfl⟩ | ⟨g, cap, cur, rfl, hbg, hg, hnc, hcm, hcs, _⟩
  · have hx : xs = [] := List.eq_nil_of_length_eq_zero (by simpa using hown.1)
    subst hx
    obtain ⟨v2, w2, hr2, k2, _, _⟩ := run_append_own_string (P := P) w w.heap.size t u ty e i ht hu hi hz hsize hby (.slice none 0 0) 0 [] (World.ownsRow_nil _ _ _ _) s h63 hbytes (Nat.le_refl _)
    rw [hr] at hr2
    injection hr2 with e1 e2
    subst e1 e2
    exact .inr (fun g hg => (k2.lt g hg).1)
  · by_cases hroom : n + s.size ≤ cap
    · have hr2 := run_append_room_string (P := P) w t u ty e i ht hu hi hsize g n cap cur hg s hroom (by omega)
      rw [hr] at hr2
      injection hr2 with e1 e2
      exact .inl (by rw [e1]; rfl)
    · have hmx : n + s.size ≤ 9223372036854775807 := by simp only [maxLen] at h63; omega
      have hr2 := run_append_grow_string (P := P) w t u ty e i (.int .u8 0) ht hu hi hz ⟨g, 0, none⟩ n cap xs (by rw [hsize]; exact hown.1) (hown.cells (g := g) rfl) s (by omega) (by omega) (by rw [hby]; exact growslice_fits (by omega) (by omega))
      rw [hr] at hr2
      injection hr2 with e1 e2
      exact .inr (fun g' hg' => by rw [e1] at hg'; simp [Value.ownBlock] at hg'; omega)

theorem wpList_append_string_at {ops : Array Oper} {rest : List Oper} {o : Oper} {a : Act} {Q : Exit → Act → World → Prop} (hgd : o.guard = none) (sl x : Operand) (t u : TypeId)
    (ho : o.op = .call { callee := .builtin .append, args := #[sl, x], argTypes := #[t, u] })
    (base : Nat) (e : TypeId) (i : TypeInfo) (ht : P.underlying t = some (.slice e)) (hu : P.underlying u = some .string) (hi : P.info? e = some i) (hz : i.zero = some (.int .u8 0))
    (hsize : i.size = 1) (hby : i.bytes = 1)
    (v : Value) (n : Nat) (xs : List Value) (hs : a.eval sl = v) (hown : w.ownsRow base e 1 v n xs) (s : ByteArray) (hx : a.eval x = .string s)
    (h63 : n + s.size ≤ maxLen) (hbytes : n + s.size ≤ 140737488355328) (hbase : base ≤ w.heap.size)
    (h : ∀ v' w', w'.ownsRow base e 1 v' (n + s.size) (xs ++ strCells s) → w.grownBy w' v.ownBlock → (v'.ownBlock = v.ownBlock ∨ ∀ g, v'.ownBlock = some g → w.heap.size ≤ g) → wpList P ops Q rest (a.put o.dst v') w') : wpList P ops Q (o :: rest) a w := by
  refine wpList_plain hgd fun K hK => ?_
  obtain ⟨v', w', hr, h2, h3, h4⟩ := run_append_string_at (P := P) w base t u o.type e i ht hu hi hz hsize hby v n xs hown s h63 hbytes hbase
  unfold Oper.wp execOp
  simp only [ho, resolve, invoke, builtin, Sem.run_bind, Sem.run_pure, Result.andThen_ok, List.map_toArray, List.map_cons, List.map_nil, hs, hx, hr]
  exact hK _ _ (h v' w' h2 h3 h4)

end
end Go.Proofs.YtgmgghbocidibaaGreatDoor
