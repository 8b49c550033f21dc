/-
  meta.ReadKey: what it is; the walk.
-/
import Derived.Test.YtajmkkjlhmeolaaGreatDoorSm11
namespace Go.Proofs.YtajmkkjlhmeolaaGreatDoor
open Go.RowKit Go.Lib

/-- a text cut at the last slash -/
def lastCut : List UInt8 → Option (List UInt8 × List UInt8)
  | [] => none
  | c :: r => match lastCut r with
    | some (a, b) => some (c :: a, b)
    | none => if c = 47 then some ([], r) else none
theorem lastCut_some : ∀ {l a b : List UInt8}, lastCut l = some (a, b) → l = a ++ 47 :: b ∧ 47 ∉ b
  | [], _, _, h => by simp [lastCut] at h
  | c :: r, a, b, h => by
    simp only [lastCut] at h
    cases hr : lastCut r with
    | some p =>
      obtain ⟨a', b'⟩ := p
      rw [hr] at h
      simp only [Option.some.injEq, Prod.mk.injEq] at h
      obtain ⟨rfl, rfl⟩ := h
      obtain ⟨h1, h2⟩ := lastCut_some hr
      exact ⟨by rw [h1]; rfl, h2⟩
    | none =>
      rw [hr] at h
      simp only at h
      split at h
      · rename_i hc
        simp only [Option.some.injEq, Prod.mk.injEq] at h
        obtain ⟨rfl, rfl⟩ := h
        refine ⟨by rw [hc]; rfl, fun hm => ?_⟩
        have : ∀ (l : List UInt8), 47 ∈ l → lastCut l ≠ none := by
          intro l
          induction l with
          | nil => intro h; cases h
          | cons x t ih =>
            intro h
            simp only [lastCut]
            cases ht : lastCut t with
            | some p => simp
            | none =>
              rcases List.mem_cons.1 h with h | h
              · rw [← h]; simp
              · exact absurd ht (ih h)
        exact this r hm hr
      · cases h
theorem lastCut_none : ∀ {l : List UInt8}, lastCut l = none → 47 ∉ l
  | [], _, h => by cases h
  | c :: r, h, hm => by
    simp only [lastCut] at h
    cases hr : lastCut r with
    | some p => rw [hr] at h; cases h
    | none =>
      rw [hr] at h
      simp only at h
      split at h
      · cases h
      · rename_i hc
        rcases List.mem_cons.1 hm with h1 | h1
        · exact hc h1.symm
        · exact lastCut_none hr h1
theorem lastCut_at {a b : List UInt8} (hb : 47 ∉ b) : lastCut (a ++ 47 :: b) = some (a, b) := by
  have h0 : ∀ (b : List UInt8), 47 ∉ b → lastCut b = none := by
    intro b h
    cases hb : lastCut b with
    | none => rfl
    | some p => obtain ⟨x, y⟩ := p; rw [(lastCut_some hb).1] at h; simp at h
  induction a with
  | nil => simp only [List.nil_append, lastCut, h0 b hb]; rfl
  | cons c a ih => simp only [List.cons_append, lastCut, ih]

/-- what Atoi's first answer is -/
def atoiVal (l : List UInt8) : Int := match atoiAll l with | .ok v => v | .range => atoiSat l | _ => 0
theorem atoiVal_ok (l : List UInt8) : IntOK (atoiVal l) := by
  unfold atoiVal
  split
  · rename_i v h; exact atoi_int h
  · unfold atoiSat IntOK; split <;> omega
  · unfold IntOK; omega
theorem atoiV_any (l : List UInt8) (hl : l.length ≤ 140737488355328) (w : World) (hg : Glob w) : Calls Tryz.prog 51 #[.string ⟨l.toArray⟩] w fun e w' => (∃ u, e = .returned (.tuple #[.int .i64 (atoiVal l), u])) ∧ Below w.heap.size w w' := by
  have hs : (⟨l.toArray⟩ : ByteArray).size = l.length := by simp [ByteArray.size]
  unfold atoiVal
  rcases hc : Lib.atoiAll l with v | _ | _
  · refine (Tryz.strconv_Atoi_ok ⟨l.toArray⟩ (by omega) v (by simpa using hc) w).mono ?_
    rintro e w' ⟨rfl, rfl | ⟨t, rfl⟩⟩
    · exact ⟨⟨_, rfl⟩, Below.refl _ _⟩
    · exact ⟨⟨_, rfl⟩, below_bytesWorld _ _ _⟩
  · obtain ⟨te, pe, hv⟩ := hg.esyn
    refine (Tryz.strconv_Atoi_syntax ⟨l.toArray⟩ (by omega) (by simpa using hc) _ w hv (.inr ⟨te, pe, rfl⟩)).mono ?_
    rintro e w' ⟨N, rfl, _, _, hb⟩
    exact ⟨⟨_, rfl⟩, hb⟩
  · obtain ⟨te, pe, hv⟩ := hg.eran
    refine (Tryz.strconv_Atoi_range ⟨l.toArray⟩ (by omega) (by simpa using hc) _ w hv (.inr ⟨te, pe, rfl⟩)).mono ?_
    rintro e w' ⟨N, rfl, _, _, hb⟩
    exact ⟨⟨_, rfl⟩, hb⟩

/-- the place that a beginning and a rest may stand for -/
def candOf (k : UInt8) (rest : List UInt8) : Option PlaceV :=
  if k.toNat = 98 then some ⟨98, rest, [], 0, 0⟩
  else if k.toNat = 118 then match lastCut rest with
    | none => none
    | some (a, b) => some ⟨118, (cut1 a 47).1, (cut1 a 47).2.1, (readNum b).getD 0, 0⟩
  else if k.toNat = 112 then some ⟨112, [], [], (readNum (cut1 rest 47).1).getD 0, atoiVal (cut1 rest 47).2.1⟩
  else if k.toNat = 117 then some ⟨117, [], [], (readNum rest).getD 0, 0⟩
  else if k.toNat = 100 then some ⟨100, [], [], (readNum rest).getD 0, 0⟩
  else if k.toNat = 110 then some ⟨110, [], [], 0, 0⟩
  else none
/-- the place of which a text is the key -/
def placeOf (s : List UInt8) : Option PlaceV :=
  match (cut1 s 47).1 with
  | [k] => match candOf k (cut1 s 47).2.1 with
    | some p => if placeKeyL p ≠ [] ∧ placeKeyL p = s then some p else none
    | none => none
  | _ => none
def placeZero : Array Value := #[.int .u8 0, .string ⟨#[]⟩, .string ⟨#[]⟩, .int .i64 0, .int .i64 0]
/-- what ReadKey leaves -/
def PlaceOut (o : Option PlaceV) (w : World) (e : Ending) (w' : World) : Prop :=
  e = .returned (.tuple #[.agg (match o with | some p => p.cells | none => placeZero), .bool o.isSome]) ∧ Below w.heap.size w w'

theorem lastIdx_of (l : List UInt8) : (lastCut l = none ∧ lastIndexByte ⟨l.toArray⟩ 47 = -1) ∨ ∃ a b, lastCut l = some (a, b) ∧ lastIndexByte ⟨l.toArray⟩ 47 = (a.length : Int) ∧ l = a ++ 47 :: b := by
  have hsz : (⟨l.toArray⟩ : ByteArray).size = l.length := by simp [ByteArray.size]
  have hg : ∀ j, j < l.length → ((⟨l.toArray⟩ : ByteArray).data[j]!) = l[j]! := fun j hj => by simp
  have h47 : ∀ c : UInt8, ((c.toNat : Int) = 47) ↔ c = 47 := fun c => ⟨fun h => UInt8.toNat_inj.1 (by have h1 : (47 : UInt8).toNat = 47 := rfl; omega), fun h => by rw [h]; rfl⟩
  rcases lastIndexByte_spec ⟨l.toArray⟩ 47 with ⟨h1, h2⟩ | ⟨i, hi, h1, h2, h3⟩
  · refine .inl ⟨?_, h1⟩
    cases hc : lastCut l with
    | none => rfl
    | some p =>
      obtain ⟨a, b⟩ := p
      have e := (lastCut_some hc).1
      have := h2 a.length (by rw [hsz, e]; simp)
      rw [hg _ (by rw [e]; simp), e] at this
      simp at this
  · rw [hsz] at hi h3
    rw [hg i hi, h47] at h2
    have hgi : l[i] = 47 := by simpa [getElem!_pos, hi] using h2
    have e : l = l.take i ++ 47 :: l.drop (i + 1) := by
      conv => lhs; rw [← List.take_append_drop i l]
      congr 1
      rw [List.drop_eq_getElem_cons hi, hgi]
    have hn : 47 ∉ l.drop (i + 1) := fun hm => by
      obtain ⟨j, hj, hjj⟩ := List.getElem_of_mem hm
      rw [List.length_drop] at hj
      rw [List.getElem_drop] at hjj
      have := h3 (i + 1 + j) (by omega) (by omega)
      rw [hg _ (by omega)] at this
      apply this
      rw [h47, getElem!_pos l _ (by omega)]
      exact hjj
    refine .inr ⟨l.take i, l.drop (i + 1), ?_, ?_, e⟩
    · conv => lhs; rw [e]
      exact lastCut_at hn
    · rw [h1, List.length_take, Nat.min_eq_left (by omega)]

theorem readNum_getD (l : List UInt8) : IntOK ((readNum l).getD 0) := by
  cases h : readNum l with
  | none => simp [IntOK]
  | some n => have := (readNum_some h).1; simp only [Option.getD_some, IntOK]; omega

/-- one cell of a row is stored -/
theorem run_storeVar_at {P : Program} (w : World) (g o : Nat) (ty t : TypeId) (old : Array Value) (v : Value) (hg : w.heap[g]? = some (.cells old t (0, 0))) (ho : o < old.size) (hi : (P.info? ty).map (·.size) = some 1) (h1 : v.oneCell' = true) :
    (storeVar ty ⟨g, o, none⟩ v).run P w = .ok () (w.setRow g (old.setIfInBounds o v)) := by
  have := run_storeCells_at (P := P) g o t [v] 0 old w hg (by simp; omega) (fun x hx => by simp at hx; subst hx; exact h1)
  have hc : v.cells = #[v] := by cases v <;> first | rfl | cases h1
  have he : (old.toList.take (o + 0) ++ [v] ++ old.toList.drop (o + 0 + [v].length)).toArray = old.setIfInBounds o v := by
    apply Array.toList_inj.1
    apply List.ext_getElem?
    intro k
    simp only [Array.toList_setIfInBounds, List.getElem?_append, List.length_take, List.length_set, Array.length_toList, List.length_append, List.length_cons, List.length_nil, Nat.add_zero]
    by_cases hk : k < o
    · simp [hk, show min o old.size = o by omega, show k < o + 1 by omega, show o ≠ k by omega]
    · by_cases hk2 : k = o
      · subst hk2; simp [show min k old.size = k by omega, ho]
      · have e1 : o + 1 + (k - (o + 1)) = k := by omega
        simp [show min o old.size = o by omega, show ¬ k < o + 1 by omega, show o ≠ k by omega, e1]
  rw [he] at this
  cases hq : P.info? ty with
  | none => simp [hq] at hi
  | some i =>
    have hs : i.size = 1 := by simpa [hq] using hi
    simp [storeVar, sizeOf, typeInfo, hq, hc, hs, this]
theorem wpList_store_at {P : Program} {ops : Array Oper} {rest : List Oper} {o : Oper} {a : Act} {w : World} {Q : Exit → Act → World → Prop} (hgd : o.guard = none) (ty : TypeId) (x y : Operand) (ho : o.op = .store ty x y)
    (g off : Nat) (v : Value) (hx : a.eval x = .pointer (some ⟨g, off, none⟩)) (hy : a.eval y = v) (h1 : v.oneCell' = true) (old : Array Value)
    (t : TypeId) (hg : w.heap[g]? = some (.cells old t (0, 0))) (hoff : off < old.size) (hi : (P.info? ty).map (·.size) = some 1)
    (h : wpList P ops Q rest (a.put o.dst undef) (w.setRow g (old.setIfInBounds off v))) : wpList P ops Q (o :: rest) a w :=
  wpList_plain hgd fun _ hK => by
    unfold Oper.wp execOp
    simp only [ho, hx, hy, Instr.storeAt, Instr.sureAddr, Sem.run_bind, Sem.run_pure, Result.andThen_ok, run_storeVar_at w g off ty t old v hg hoff hi h1]
    exact hK _ _ h
/-- the place that ReadKey fills, and what it will answer -/
structure RkAt (w wk : World) (cs : Array Value) : Prop where
  x : wk.heap[w.heap.size + 1]? = some (.cells cs 25 (0, 0))
  z : wk.heap[w.heap.size]? = some (.cells placeZero 25 (0, 0))
  b : Below w.heap.size w wk
theorem RkAt.later {w wk wl : World} {cs : Array Value} (h : RkAt w wk cs) (hb : Below wk.heap.size wk wl) : RkAt w wl cs :=
  have hs := (Array.getElem?_eq_some_iff.1 h.x).1
  ⟨(hb.block _ hs).trans h.x, (hb.block _ (by omega)).trans h.z, h.b.trans (hb.mono h.b.size)⟩
theorem RkAt.set {w wk : World} {cs : Array Value} (h : RkAt w wk cs) (new : Array Value) : RkAt w (wk.setRow (w.heap.size + 1) new) new :=
  ⟨setRow_heap _ _ _ _ _ _ h.x, (setRow_other _ _ _ _ (by omega)).trans h.z, below_one_row _ _ _ _ _ h.b (by omega)⟩
theorem RkAt.name {w wk : World} {cs : Array Value} {p : World → Prop} (h : RkAt w wk cs) (hp : ∀ wl, RkAt w wl cs → p wl) : p wk := hp wk h

theorem cut47 (s : List UInt8) (hl : s.length ≤ 140737488355328) (w : World) : Calls Tryz.prog 49 #[.string ⟨s.toArray⟩, .string ⟨#[47]⟩] w fun e w' => e = .returned (.tuple #[.string ⟨(cut1 s 47).1.toArray⟩, .string ⟨(cut1 s 47).2.1.toArray⟩, .bool (cut1 s 47).2.2]) ∧ ∃ n, w' = w.drewN n :=
  cut_any ⟨s.toArray⟩ 47 w (by show s.toArray.size ≤ _; simp; omega)

theorem cut47B (s : List UInt8) (hl : s.length ≤ 140737488355328) (w : World) : Calls Tryz.prog 49 #[.string ⟨s.toArray⟩, .string ⟨#[47]⟩] w fun e w' => e = .returned (.tuple #[.string ⟨(cut1 s 47).1.toArray⟩, .string ⟨(cut1 s 47).2.1.toArray⟩, .bool (cut1 s 47).2.2]) ∧ Below w.heap.size w w' := by
  refine (cut47 s hl w).mono ?_
  rintro e w' ⟨h, n, rfl⟩
  exact ⟨h, belowDrewN (Below.refl _ _) _⟩
theorem lastI (l : List UInt8) (hl : l.length ≤ 140737488355328) (v : Int) (hv : lastIndexByte ⟨l.toArray⟩ 47 = v) (w : World) : Calls Tryz.prog 50 #[.string ⟨l.toArray⟩, .int .u8 47] w fun e w' => e = .returned (.int .i64 v) ∧ Below w.heap.size w w' := by
  refine (Tryz.strings_LastIndexByte ⟨l.toArray⟩ 47 (by show l.toArray.size < _; simp; omega) w).mono ?_
  rintro e w' ⟨h, rfl⟩
  exact ⟨by rw [h, hv], Below.refl _ _⟩

set_option maxHeartbeats 4000000 in
set_option maxRecDepth 100000 in
theorem readKey_any (s : List UInt8) (hs : s.length ≤ 140737488351232) (w : World) (hG : GlobK w) : Calls Tryz.prog 11 #[.string ⟨s.toArray⟩] w (PlaceOut (placeOf s) w) := by
  have HG : Hid (∀ W, Below w.heap.size w W → GlobK W) := fun W hW => hG.later hW
  have HC := Lib.hid (fun W => cut47 s (by omega) W)
  have hlen := cut1_len s 47
  obtain ⟨res, hres⟩ : ∃ r, Hid (placeOf s = r) := ⟨_, rfl⟩
  rw [hres.out]
  have HR : Hid (res = match (cut1 s 47).1 with
    | [k] => match candOf k (cut1 s 47).2.1 with
      | some p => if placeKeyL p ≠ [] ∧ placeKeyL p = s then some p else none
      | none => none
    | _ => none) := hres.out.symm
  obtain ⟨⟨hd, rest, ok⟩, hcut⟩ : ∃ p, cut1 s 47 = p := ⟨_, rfl⟩
  rw [hcut] at HC HR hlen
  simp only at HC HR hlen
  obtain ⟨_, hrl⟩ := hlen
  have BA : Hid (Below w.heap.size w (w.alloc (.cells placeZero 25))) := below_alloc (Below.refl _ _) (Nat.le_refl _) _
  have HZ : Hid ((w.alloc (.cells placeZero 25)).heap[w.heap.size]? = some (.cells placeZero 25 (0, 0))) := heap_alloc_new _ _
  clear hcut hG
  have hone : hd.length = 1 ∨ hd.length ≠ 1 := by omega
  rcases hone with h1 | h1
  · obtain ⟨k, rfl⟩ : ∃ k, hd = [k] := by
      cases hd with
      | nil => simp at h1
      | cons k r => cases r with
        | nil => exact ⟨k, rfl⟩
        | cons _ _ => simp at h1
    have hh := strHead k []
    have hk256 : k.toNat < 256 := k.toNat_lt
    clear h1
    simp only at HR
    by_cases hk98 : k = 98
    · subst hk98
      have HCD : Hid (candOf 98 rest = some ⟨98, rest, [], 0, 0⟩) := rfl
      rw [HCD.out] at HR
      simp only at HR
      go_enter Tryz.func11, Tryz.ntmps11
      go_wp2_with fail
      refine (HC.out _).mono ?_
      rintro e w1 ⟨rfl, n1, rfl⟩
      go_wp2_with fail
      have hok : PlaceV.OK ⟨98, rest, [], 0, 0⟩ := ⟨by unfold IntOK; simp, by unfold IntOK; simp, by simp only; omega, by simp⟩
      refine Calls.mono (placeKey_any ⟨98, rest, [], 0, 0⟩ hok _ (HG.out _ (by repeat (first | exact Below.refl _ _ | assumption | (refine belowDrewN ?_ _) | (refine Below.alloc ?_ (by first | (simp; done) | (simp; omega) | omega) _) | (refine Below.setCell ?_ (by first | (simp; done) | (simp; omega) | omega) _))))) ?_
      rintro e w5 ⟨rfl, hb5⟩
      have K5 := Lib.hid (RkAt.later ⟨by first | exact heap_at1 _ _ _ | simp, by first | exact (Below.heap_alloc _ _ _ (by simp)).trans (heap_alloc_new _ _) | simp, (by repeat (first | exact Below.refl _ _ | assumption | (refine belowDrewN ?_ _) | (refine Below.alloc ?_ (by first | (simp; done) | (simp; omega) | omega) _) | (refine Below.setCell ?_ (by first | (simp; done) | (simp; omega) | omega) _)))⟩ hb5)
      have HX := Lib.hid K5.out.x
      have HZ5 := Lib.hid K5.out.z
      have B5 := Lib.hid K5.out.b
      clear hb5 hok
      obtain ⟨R, hRR⟩ : ∃ R, Hid (placeKeyL ⟨98, rest, [], 0, 0⟩ = R) := ⟨_, rfl⟩
      rw [hRR.out] at HR ⊢
      cases R with
      | nil =>
        have HF : Hid (res = none) := by show _ = _; rw [HR.out, if_neg (fun h => h.1 rfl)]
        go_wp2_with (refine wpList_store_row (by rfl) 25 _ _ (by rfl) w.heap.size placeZero (by rfl) (by rfl) 25 _ (by exact HZ5.out) (by kernel_rfl) (by kernel_rfl) (by kernel_rfl) ?_)
        refine bodyPost_ret (results_cell_tmp rfl _ _ w.heap.size 25 _ _ rfl (setRow_heap _ _ _ _ _ _ HZ5.out) Tryz.underlying25 rfl (by kernel_rfl)) rfl ?_
        rw [HF.out]
        exact ⟨rfl, below_one_row _ _ _ _ _ B5.out (Nat.le_refl _)⟩
      | cons r0 rr =>
        cases hq : (r0 :: rr == s)
        · have HF : Hid (res = none) := by show _ = _; rw [HR.out, if_neg (fun h => by rw [beq_eq_false_iff_ne] at hq; exact hq h.2)]
          go_wp2_with (refine wpList_store_row (by rfl) 25 _ _ (by rfl) w.heap.size placeZero (by rfl) (by rfl) 25 _ (by exact HZ5.out) (by kernel_rfl) (by kernel_rfl) (by kernel_rfl) ?_)
          refine bodyPost_ret (results_cell_tmp rfl _ _ w.heap.size 25 _ _ rfl (setRow_heap _ _ _ _ _ _ HZ5.out) Tryz.underlying25 rfl (by kernel_rfl)) rfl ?_
          rw [HF.out]
          exact ⟨rfl, below_one_row _ _ _ _ _ B5.out (Nat.le_refl _)⟩
        · have HF : Hid (res = some ⟨98, rest, [], 0, 0⟩) := by show _ = _; rw [HR.out, if_pos ⟨by simp, beq_iff_eq.1 hq⟩]
          go_wp2_with (first
            | (refine wpList_load_row (by rfl) 25 _ (by rfl) (w.heap.size + 1) (by rfl) 25 _ (0, 0) _ (by exact HX.out) Tryz.underlying25 rfl (by kernel_rfl) ?_)
            | (refine wpList_store_row (by rfl) 25 _ _ (by rfl) w.heap.size _ (by rfl) (by rfl) 25 _ (by exact HZ5.out) (by kernel_rfl) (by kernel_rfl) (by kernel_rfl) ?_))
          refine bodyPost_ret (results_cell_tmp rfl _ _ w.heap.size 25 _ _ rfl (setRow_heap _ _ _ _ _ _ HZ5.out) Tryz.underlying25 rfl (by kernel_rfl)) rfl ?_
          rw [HF.out]
          exact ⟨rfl, below_one_row _ _ _ _ _ B5.out (Nat.le_refl _)⟩
    by_cases hk110 : k = 110
    · subst hk110
      have HCD : Hid (candOf 110 rest = some ⟨110, [], [], 0, 0⟩) := rfl
      rw [HCD.out] at HR
      simp only at HR
      go_enter Tryz.func11, Tryz.ntmps11
      go_wp2_with fail
      refine (HC.out _).mono ?_
      rintro e w1 ⟨rfl, n1, rfl⟩
      go_wp2_with fail
      have hok : PlaceV.OK ⟨110, [], [], 0, 0⟩ := ⟨by unfold IntOK; simp, by unfold IntOK; simp, by simp, by simp⟩
      refine Calls.mono (placeKey_any ⟨110, [], [], 0, 0⟩ hok _ (HG.out _ (by repeat (first | exact Below.refl _ _ | assumption | (refine belowDrewN ?_ _) | (refine Below.alloc ?_ (by first | (simp; done) | (simp; omega) | omega) _) | (refine Below.setCell ?_ (by first | (simp; done) | (simp; omega) | omega) _))))) ?_
      rintro e w5 ⟨rfl, hb5⟩
      have K5 := Lib.hid (RkAt.later ⟨by first | exact heap_at1 _ _ _ | simp, by first | exact (Below.heap_alloc _ _ _ (by simp)).trans (heap_alloc_new _ _) | simp, (by repeat (first | exact Below.refl _ _ | assumption | (refine belowDrewN ?_ _) | (refine Below.alloc ?_ (by first | (simp; done) | (simp; omega) | omega) _) | (refine Below.setCell ?_ (by first | (simp; done) | (simp; omega) | omega) _)))⟩ hb5)
      have HX := Lib.hid K5.out.x
      have HZ5 := Lib.hid K5.out.z
      have B5 := Lib.hid K5.out.b
      clear hb5 hok
      obtain ⟨R, hRR⟩ : ∃ R, Hid (placeKeyL ⟨110, [], [], 0, 0⟩ = R) := ⟨_, rfl⟩
      rw [hRR.out] at HR ⊢
      cases R with
      | nil =>
        have HF : Hid (res = none) := by show _ = _; rw [HR.out, if_neg (fun h => h.1 rfl)]
        go_wp2_with (refine wpList_store_row (by rfl) 25 _ _ (by rfl) w.heap.size placeZero (by rfl) (by rfl) 25 _ (by exact HZ5.out) (by kernel_rfl) (by kernel_rfl) (by kernel_rfl) ?_)
        refine bodyPost_ret (results_cell_tmp rfl _ _ w.heap.size 25 _ _ rfl (setRow_heap _ _ _ _ _ _ HZ5.out) Tryz.underlying25 rfl (by kernel_rfl)) rfl ?_
        rw [HF.out]
        exact ⟨rfl, below_one_row _ _ _ _ _ B5.out (Nat.le_refl _)⟩
      | cons r0 rr =>
        cases hq : (r0 :: rr == s)
        · have HF : Hid (res = none) := by show _ = _; rw [HR.out, if_neg (fun h => by rw [beq_eq_false_iff_ne] at hq; exact hq h.2)]
          go_wp2_with (refine wpList_store_row (by rfl) 25 _ _ (by rfl) w.heap.size placeZero (by rfl) (by rfl) 25 _ (by exact HZ5.out) (by kernel_rfl) (by kernel_rfl) (by kernel_rfl) ?_)
          refine bodyPost_ret (results_cell_tmp rfl _ _ w.heap.size 25 _ _ rfl (setRow_heap _ _ _ _ _ _ HZ5.out) Tryz.underlying25 rfl (by kernel_rfl)) rfl ?_
          rw [HF.out]
          exact ⟨rfl, below_one_row _ _ _ _ _ B5.out (Nat.le_refl _)⟩
        · have HF : Hid (res = some ⟨110, [], [], 0, 0⟩) := by show _ = _; rw [HR.out, if_pos ⟨by simp, beq_iff_eq.1 hq⟩]
          go_wp2_with (first
            | (refine wpList_load_row (by rfl) 25 _ (by rfl) (w.heap.size + 1) (by rfl) 25 _ (0, 0) _ (by exact HX.out) Tryz.underlying25 rfl (by kernel_rfl) ?_)
            | (refine wpList_store_row (by rfl) 25 _ _ (by rfl) w.heap.size _ (by rfl) (by rfl) 25 _ (by exact HZ5.out) (by kernel_rfl) (by kernel_rfl) (by kernel_rfl) ?_))
          refine bodyPost_ret (results_cell_tmp rfl _ _ w.heap.size 25 _ _ rfl (setRow_heap _ _ _ _ _ _ HZ5.out) Tryz.underlying25 rfl (by kernel_rfl)) rfl ?_
          rw [HF.out]
          exact ⟨rfl, below_one_row _ _ _ _ _ B5.out (Nat.le_refl _)⟩
    by_cases hk117 : k = 117
    · subst hk117
      obtain ⟨n, hn, hnn⟩ : ∃ n, (readNum rest).getD 0 = n ∧ IntOK n := ⟨_, rfl, readNum_getD rest⟩
      have HCD : Hid (candOf 117 rest = some ⟨117, [], [], n, 0⟩) := by show _ = _; rw [← hn]; rfl
      rw [HCD.out] at HR
      simp only at HR
      go_enter Tryz.func11, Tryz.ntmps11
      go_wp2_with fail
      refine (HC.out _).mono ?_
      rintro e w1 ⟨rfl, n1, rfl⟩
      go_wp2_with fail
      refine Calls.mono (readNumber_any rest _ (HG.out _ (by repeat (first | exact Below.refl _ _ | assumption | (refine belowDrewN ?_ _) | (refine Below.alloc ?_ (by first | (simp; done) | (simp; omega) | omega) _) | (refine Below.setCell ?_ (by first | (simp; done) | (simp; omega) | omega) _)))).g (by omega)) ?_
      rintro e w2 ⟨rfl, hb⟩
      have Kw2 : Hid (RkAt w w2 #[.int .u8 117, .string ⟨#[]⟩, .string ⟨#[]⟩, .int .i64 0, .int .i64 0]) := Lib.hid (RkAt.later ⟨by first | exact heap_at1 _ _ _ | simp, by first | exact (Below.heap_alloc _ _ _ (by simp)).trans (heap_alloc_new _ _) | simp, (by repeat (first | exact Below.refl _ _ | assumption | (refine belowDrewN ?_ _) | (refine Below.alloc ?_ (by first | (simp; done) | (simp; omega) | omega) _) | (refine Below.setCell ?_ (by first | (simp; done) | (simp; omega) | omega) _)))⟩ hb)
      clear hb
      rw [hn]
      clear hn
      go_wp2_with (first
        | (refine wpList_store_at (by rfl) 3 _ _ (by rfl) (w.heap.size + 1) 3 (.int .i64 n) (by rfl) (by rfl) (by rfl) _ 25 (by exact (Kw2.out).x) (by simp) (by kernel_rfl) ?_)
        | (refine wpList_load_row (by rfl) 25 _ (by rfl) (w.heap.size + 1) (by rfl) 25 _ (0, 0) _ (by exact (Kw2.out.set _).x) Tryz.underlying25 rfl (by kernel_rfl) ?_))
      have hok : PlaceV.OK ⟨117, [], [], n, 0⟩ := ⟨hnn, by unfold IntOK; simp, by simp, by simp⟩
      refine Calls.mono (placeKey_any ⟨117, [], [], n, 0⟩ hok _ (HG.out _ (Kw2.out.set _).b)) ?_
      rintro e w5 ⟨rfl, hb5⟩
      have K5 := Lib.hid (RkAt.later (Kw2.out.set _) hb5)
      have HX := Lib.hid K5.out.x
      have HZ5 := Lib.hid K5.out.z
      have B5 := Lib.hid K5.out.b
      clear hb5 hok
      obtain ⟨R, hRR⟩ : ∃ R, Hid (placeKeyL ⟨117, [], [], n, 0⟩ = R) := ⟨_, rfl⟩
      rw [hRR.out] at HR ⊢
      cases R with
      | nil =>
        have HF : Hid (res = none) := by show _ = _; rw [HR.out, if_neg (fun h => h.1 rfl)]
        go_wp2_with (refine wpList_store_row (by rfl) 25 _ _ (by rfl) w.heap.size placeZero (by rfl) (by rfl) 25 _ (by exact HZ5.out) (by kernel_rfl) (by kernel_rfl) (by kernel_rfl) ?_)
        refine bodyPost_ret (results_cell_tmp rfl _ _ w.heap.size 25 _ _ rfl (setRow_heap _ _ _ _ _ _ HZ5.out) Tryz.underlying25 rfl (by kernel_rfl)) rfl ?_
        rw [HF.out]
        exact ⟨rfl, below_one_row _ _ _ _ _ B5.out (Nat.le_refl _)⟩
      | cons r0 rr =>
        cases hq : (r0 :: rr == s)
        · have HF : Hid (res = none) := by show _ = _; rw [HR.out, if_neg (fun h => by rw [beq_eq_false_iff_ne] at hq; exact hq h.2)]
          go_wp2_with (refine wpList_store_row (by rfl) 25 _ _ (by rfl) w.heap.size placeZero (by rfl) (by rfl) 25 _ (by exact HZ5.out) (by kernel_rfl) (by kernel_rfl) (by kernel_rfl) ?_)
          refine bodyPost_ret (results_cell_tmp rfl _ _ w.heap.size 25 _ _ rfl (setRow_heap _ _ _ _ _ _ HZ5.out) Tryz.underlying25 rfl (by kernel_rfl)) rfl ?_
          rw [HF.out]
          exact ⟨rfl, below_one_row _ _ _ _ _ B5.out (Nat.le_refl _)⟩
        · have HF : Hid (res = some ⟨117, [], [], n, 0⟩) := by show _ = _; rw [HR.out, if_pos ⟨by simp, beq_iff_eq.1 hq⟩]
          go_wp2_with (first
            | (refine wpList_load_row (by rfl) 25 _ (by rfl) (w.heap.size + 1) (by rfl) 25 _ (0, 0) _ (by exact HX.out) Tryz.underlying25 rfl (by kernel_rfl) ?_)
            | (refine wpList_store_row (by rfl) 25 _ _ (by rfl) w.heap.size _ (by rfl) (by rfl) 25 _ (by exact HZ5.out) (by kernel_rfl) (by kernel_rfl) (by kernel_rfl) ?_))
          refine bodyPost_ret (results_cell_tmp rfl _ _ w.heap.size 25 _ _ rfl (setRow_heap _ _ _ _ _ _ HZ5.out) Tryz.underlying25 rfl (by kernel_rfl)) rfl ?_
          rw [HF.out]
          exact ⟨rfl, below_one_row _ _ _ _ _ B5.out (Nat.le_refl _)⟩
    by_cases hk100 : k = 100
    · subst hk100
      obtain ⟨n, hn, hnn⟩ : ∃ n, (readNum rest).getD 0 = n ∧ IntOK n := ⟨_, rfl, readNum_getD rest⟩
      have HCD : Hid (candOf 100 rest = some ⟨100, [], [], n, 0⟩) := by show _ = _; rw [← hn]; rfl
      rw [HCD.out] at HR
      simp only at HR
      go_enter Tryz.func11, Tryz.ntmps11
      go_wp2_with fail
      refine (HC.out _).mono ?_
      rintro e w1 ⟨rfl, n1, rfl⟩
      go_wp2_with fail
      refine Calls.mono (readNumber_any rest _ (HG.out _ (by repeat (first | exact Below.refl _ _ | assumption | (refine belowDrewN ?_ _) | (refine Below.alloc ?_ (by first | (simp; done) | (simp; omega) | omega) _) | (refine Below.setCell ?_ (by first | (simp; done) | (simp; omega) | omega) _)))).g (by omega)) ?_
      rintro e w2 ⟨rfl, hb⟩
      have Kw2 : Hid (RkAt w w2 #[.int .u8 100, .string ⟨#[]⟩, .string ⟨#[]⟩, .int .i64 0, .int .i64 0]) := Lib.hid (RkAt.later ⟨by first | exact heap_at1 _ _ _ | simp, by first | exact (Below.heap_alloc _ _ _ (by simp)).trans (heap_alloc_new _ _) | simp, (by repeat (first | exact Below.refl _ _ | assumption | (refine belowDrewN ?_ _) | (refine Below.alloc ?_ (by first | (simp; done) | (simp; omega) | omega) _) | (refine Below.setCell ?_ (by first | (simp; done) | (simp; omega) | omega) _)))⟩ hb)
      clear hb
      rw [hn]
      clear hn
      go_wp2_with (first
        | (refine wpList_store_at (by rfl) 3 _ _ (by rfl) (w.heap.size + 1) 3 (.int .i64 n) (by rfl) (by rfl) (by rfl) _ 25 (by exact (Kw2.out).x) (by simp) (by kernel_rfl) ?_)
        | (refine wpList_load_row (by rfl) 25 _ (by rfl) (w.heap.size + 1) (by rfl) 25 _ (0, 0) _ (by exact (Kw2.out.set _).x) Tryz.underlying25 rfl (by kernel_rfl) ?_))
      have hok : PlaceV.OK ⟨100, [], [], n, 0⟩ := ⟨hnn, by unfold IntOK; simp, by simp, by simp⟩
      refine Calls.mono (placeKey_any ⟨100, [], [], n, 0⟩ hok _ (HG.out _ (Kw2.out.set _).b)) ?_
      rintro e w5 ⟨rfl, hb5⟩
      have K5 := Lib.hid (RkAt.later (Kw2.out.set _) hb5)
      have HX := Lib.hid K5.out.x
      have HZ5 := Lib.hid K5.out.z
      have B5 := Lib.hid K5.out.b
      clear hb5 hok
      obtain ⟨R, hRR⟩ : ∃ R, Hid (placeKeyL ⟨100, [], [], n, 0⟩ = R) := ⟨_, rfl⟩
      rw [hRR.out] at HR ⊢
      cases R with
      | nil =>
        have HF : Hid (res = none) := by show _ = _; rw [HR.out, if_neg (fun h => h.1 rfl)]
        go_wp2_with (refine wpList_store_row (by rfl) 25 _ _ (by rfl) w.heap.size placeZero (by rfl) (by rfl) 25 _ (by exact HZ5.out) (by kernel_rfl) (by kernel_rfl) (by kernel_rfl) ?_)
        refine bodyPost_ret (results_cell_tmp rfl _ _ w.heap.size 25 _ _ rfl (setRow_heap _ _ _ _ _ _ HZ5.out) Tryz.underlying25 rfl (by kernel_rfl)) rfl ?_
        rw [HF.out]
        exact ⟨rfl, below_one_row _ _ _ _ _ B5.out (Nat.le_refl _)⟩
      | cons r0 rr =>
        cases hq : (r0 :: rr == s)
        · have HF : Hid (res = none) := by show _ = _; rw [HR.out, if_neg (fun h => by rw [beq_eq_false_iff_ne] at hq; exact hq h.2)]
          go_wp2_with (refine wpList_store_row (by rfl) 25 _ _ (by rfl) w.heap.size placeZero (by rfl) (by rfl) 25 _ (by exact HZ5.out) (by kernel_rfl) (by kernel_rfl) (by kernel_rfl) ?_)
          refine bodyPost_ret (results_cell_tmp rfl _ _ w.heap.size 25 _ _ rfl (setRow_heap _ _ _ _ _ _ HZ5.out) Tryz.underlying25 rfl (by kernel_rfl)) rfl ?_
          rw [HF.out]
          exact ⟨rfl, below_one_row _ _ _ _ _ B5.out (Nat.le_refl _)⟩
        · have HF : Hid (res = some ⟨100, [], [], n, 0⟩) := by show _ = _; rw [HR.out, if_pos ⟨by simp, beq_iff_eq.1 hq⟩]
          go_wp2_with (first
            | (refine wpList_load_row (by rfl) 25 _ (by rfl) (w.heap.size + 1) (by rfl) 25 _ (0, 0) _ (by exact HX.out) Tryz.underlying25 rfl (by kernel_rfl) ?_)
            | (refine wpList_store_row (by rfl) 25 _ _ (by rfl) w.heap.size _ (by rfl) (by rfl) 25 _ (by exact HZ5.out) (by kernel_rfl) (by kernel_rfl) (by kernel_rfl) ?_))
          refine bodyPost_ret (results_cell_tmp rfl _ _ w.heap.size 25 _ _ rfl (setRow_heap _ _ _ _ _ _ HZ5.out) Tryz.underlying25 rfl (by kernel_rfl)) rfl ?_
          rw [HF.out]
          exact ⟨rfl, below_one_row _ _ _ _ _ B5.out (Nat.le_refl _)⟩
    by_cases hk112 : k = 112
    · subst hk112
      have hq2 := cut1_len rest 47
      have HC2 := Lib.hid (fun W => cut47B rest (by omega) W)
      obtain ⟨n, hn, hnn⟩ : ∃ n, (readNum (cut1 rest 47).1).getD 0 = n ∧ IntOK n := ⟨_, rfl, readNum_getD _⟩
      obtain ⟨m, hm, hmm⟩ : ∃ m, atoiVal (cut1 rest 47).2.1 = m ∧ IntOK m := ⟨_, rfl, atoiVal_ok _⟩
      have HCD : Hid (candOf 112 rest = some ⟨112, [], [], n, m⟩) := by show _ = _; rw [← hn, ← hm]; rfl
      rw [HCD.out] at HR
      simp only at HR
      obtain ⟨⟨qa, qb, qo⟩, hq⟩ : ∃ p, cut1 rest 47 = p := ⟨_, rfl⟩
      rw [hq] at hq2 HC2 hn hm
      simp only at hq2 HC2 hn hm
      obtain ⟨hq2, hq3⟩ := hq2
      clear hq
      have HN := Lib.hid hn
      have HM := Lib.hid hm
      clear hn hm
      go_enter Tryz.func11, Tryz.ntmps11
      go_wp2_with fail
      refine (HC.out _).mono ?_
      rintro e w1 ⟨rfl, n1, rfl⟩
      go_wp2_with fail
      refine Calls.mono (HC2.out _) ?_
      rintro e w2 ⟨rfl, hb⟩
      have Kw2 : Hid (RkAt w w2 #[.int .u8 112, .string ⟨#[]⟩, .string ⟨#[]⟩, .int .i64 0, .int .i64 0]) := Lib.hid (RkAt.later ⟨by first | exact heap_at1 _ _ _ | simp, by first | exact (Below.heap_alloc _ _ _ (by simp)).trans (heap_alloc_new _ _) | simp, (by repeat (first | exact Below.refl _ _ | assumption | (refine belowDrewN ?_ _) | (refine Below.alloc ?_ (by first | (simp; done) | (simp; omega) | omega) _) | (refine Below.setCell ?_ (by first | (simp; done) | (simp; omega) | omega) _)))⟩ hb)
      clear hb
      go_wp2_with fail
      refine Calls.mono (readNumber_any qa _ (HG.out _ Kw2.out.b).g (by omega)) ?_
      rintro e w3 ⟨rfl, hb⟩
      have Kw3 : Hid (RkAt w w3 #[.int .u8 112, .string ⟨#[]⟩, .string ⟨#[]⟩, .int .i64 0, .int .i64 0]) := Lib.hid (RkAt.later Kw2.out hb)
      clear hb
      rw [HN.out]
      clear HN
      go_wp2_with (refine wpList_store_at (by rfl) 3 _ _ (by rfl) (w.heap.size + 1) 3 (.int .i64 n) (by rfl) (by rfl) (by rfl) _ 25 (by exact (Kw3.out).x) (by simp) (by kernel_rfl) ?_)
      refine Calls.mono (atoiV_any qb (by omega) _ (HG.out _ (Kw3.out.set _).b).g) ?_
      rintro e w4 ⟨⟨u, rfl⟩, hb⟩
      have Kw4 : Hid (RkAt w w4 #[.int .u8 112, .string ⟨#[]⟩, .string ⟨#[]⟩, .int .i64 n, .int .i64 0]) := Lib.hid (RkAt.later (Kw3.out.set _) hb)
      clear hb
      rw [HM.out]
      clear HM
      go_wp2_with (first
        | (refine wpList_store_at (by rfl) 3 _ _ (by rfl) (w.heap.size + 1) 4 (.int .i64 m) (by rfl) (by rfl) (by rfl) _ 25 (by exact (Kw4.out).x) (by simp) (by kernel_rfl) ?_)
        | (refine wpList_load_row (by rfl) 25 _ (by rfl) (w.heap.size + 1) (by rfl) 25 _ (0, 0) _ (by exact (Kw4.out.set _).x) Tryz.underlying25 rfl (by kernel_rfl) ?_))
      have hok : PlaceV.OK ⟨112, [], [], n, m⟩ := ⟨hnn, hmm, by simp, by simp⟩
      refine Calls.mono (placeKey_any ⟨112, [], [], n, m⟩ hok _ (HG.out _ (Kw4.out.set _).b)) ?_
      rintro e w5 ⟨rfl, hb5⟩
      have K5 := Lib.hid (RkAt.later (Kw4.out.set _) hb5)
      have HX := Lib.hid K5.out.x
      have HZ5 := Lib.hid K5.out.z
      have B5 := Lib.hid K5.out.b
      clear hb5 hok
      obtain ⟨R, hRR⟩ : ∃ R, Hid (placeKeyL ⟨112, [], [], n, m⟩ = R) := ⟨_, rfl⟩
      rw [hRR.out] at HR ⊢
      cases R with
      | nil =>
        have HF : Hid (res = none) := by show _ = _; rw [HR.out, if_neg (fun h => h.1 rfl)]
        go_wp2_with (refine wpList_store_row (by rfl) 25 _ _ (by rfl) w.heap.size placeZero (by rfl) (by rfl) 25 _ (by exact HZ5.out) (by kernel_rfl) (by kernel_rfl) (by kernel_rfl) ?_)
        refine bodyPost_ret (results_cell_tmp rfl _ _ w.heap.size 25 _ _ rfl (setRow_heap _ _ _ _ _ _ HZ5.out) Tryz.underlying25 rfl (by kernel_rfl)) rfl ?_
        rw [HF.out]
        exact ⟨rfl, below_one_row _ _ _ _ _ B5.out (Nat.le_refl _)⟩
      | cons r0 rr =>
        cases hq : (r0 :: rr == s)
        · have HF : Hid (res = none) := by show _ = _; rw [HR.out, if_neg (fun h => by rw [beq_eq_false_iff_ne] at hq; exact hq h.2)]
          go_wp2_with (refine wpList_store_row (by rfl) 25 _ _ (by rfl) w.heap.size placeZero (by rfl) (by rfl) 25 _ (by exact HZ5.out) (by kernel_rfl) (by kernel_rfl) (by kernel_rfl) ?_)
          refine bodyPost_ret (results_cell_tmp rfl _ _ w.heap.size 25 _ _ rfl (setRow_heap _ _ _ _ _ _ HZ5.out) Tryz.underlying25 rfl (by kernel_rfl)) rfl ?_
          rw [HF.out]
          exact ⟨rfl, below_one_row _ _ _ _ _ B5.out (Nat.le_refl _)⟩
        · have HF : Hid (res = some ⟨112, [], [], n, m⟩) := by show _ = _; rw [HR.out, if_pos ⟨by simp, beq_iff_eq.1 hq⟩]
          go_wp2_with (first
            | (refine wpList_load_row (by rfl) 25 _ (by rfl) (w.heap.size + 1) (by rfl) 25 _ (0, 0) _ (by exact HX.out) Tryz.underlying25 rfl (by kernel_rfl) ?_)
            | (refine wpList_store_row (by rfl) 25 _ _ (by rfl) w.heap.size _ (by rfl) (by rfl) 25 _ (by exact HZ5.out) (by kernel_rfl) (by kernel_rfl) (by kernel_rfl) ?_))
          refine bodyPost_ret (results_cell_tmp rfl _ _ w.heap.size 25 _ _ rfl (setRow_heap _ _ _ _ _ _ HZ5.out) Tryz.underlying25 rfl (by kernel_rfl)) rfl ?_
          rw [HF.out]
          exact ⟨rfl, below_one_row _ _ _ _ _ B5.out (Nat.le_refl _)⟩
    by_cases hk118 : k = 118
    · subst hk118
      rcases lastIdx_of rest with ⟨hl0, hli⟩ | ⟨a, b, hl0, hli, hab⟩
      · have HF : Hid (res = none) := by
          show _ = _
          rw [HR.out]
          have : candOf 118 rest = none := by
            show (match lastCut rest with | none => none | some (a, b) => some _) = none
            rw [hl0]
          rw [this]
        have HLI := Lib.hid (fun W => lastI rest (by omega) _ hli W)
        clear hl0 hli
        go_enter Tryz.func11, Tryz.ntmps11
        go_wp2_with fail
        refine (HC.out _).mono ?_
        rintro e w1 ⟨rfl, n1, rfl⟩
        go_wp2_with fail
        refine Calls.mono (HLI.out _) ?_
        rintro e w2 ⟨rfl, hb⟩
        have Kw2 : Hid (RkAt w w2 #[.int .u8 118, .string ⟨#[]⟩, .string ⟨#[]⟩, .int .i64 0, .int .i64 0]) := Lib.hid (RkAt.later ⟨by first | exact heap_at1 _ _ _ | simp, by first | exact (Below.heap_alloc _ _ _ (by simp)).trans (heap_alloc_new _ _) | simp, (by repeat (first | exact Below.refl _ _ | assumption | (refine belowDrewN ?_ _) | (refine Below.alloc ?_ (by first | (simp; done) | (simp; omega) | omega) _) | (refine Below.setCell ?_ (by first | (simp; done) | (simp; omega) | omega) _)))⟩ hb)
        clear hb
        have HZ5 := Lib.hid Kw2.out.z
        have B5 := Lib.hid Kw2.out.b
        go_wp2_with (refine wpList_store_row (by rfl) 25 _ _ (by rfl) w.heap.size placeZero (by rfl) (by rfl) 25 _ (by exact HZ5.out) (by kernel_rfl) (by kernel_rfl) (by kernel_rfl) ?_)
        refine bodyPost_ret (results_cell_tmp rfl _ _ w.heap.size 25 _ _ rfl (setRow_heap _ _ _ _ _ _ HZ5.out) Tryz.underlying25 rfl (by kernel_rfl)) rfl ?_
        rw [HF.out]
        exact ⟨rfl, below_one_row _ _ _ _ _ B5.out (Nat.le_refl _)⟩
      · have hla : a.length + 1 + b.length = rest.length := by rw [hab]; simp; omega
        have HLI := Lib.hid (fun W => lastI rest (by omega) _ hli W)
        have HDB : Hid (rest.drop (a.length + 1) = b) := by show _ = _; rw [hab, List.drop_append]; simp
        have HTA : Hid (rest.take a.length = a) := by show _ = _; rw [hab, List.take_append]; simp
        have hq2 := cut1_len a 47
        have HC2 := Lib.hid (fun W => cut47B a (by omega) W)
        obtain ⟨n, hn, hnn⟩ : ∃ n, (readNum b).getD 0 = n ∧ IntOK n := ⟨_, rfl, readNum_getD _⟩
        have HN := Lib.hid hn
        obtain ⟨⟨qa, qb, qo⟩, hq⟩ : ∃ p, cut1 a 47 = p := ⟨_, rfl⟩
        have HCD : Hid (candOf 118 rest = some ⟨118, qa, qb, n, 0⟩) := by
          show (match lastCut rest with | none => none | some (a, b) => some _) = _
          rw [hl0]
          simp only
          rw [hq, hn]
        rw [HCD.out] at HR
        simp only at HR
        rw [hq] at hq2 HC2
        simp only at hq2 HC2
        obtain ⟨hq2, hq3⟩ := hq2
        have x1 : ¬ ((a.length : Int) < 0) := by omega
        have x2 : (a.length : Int) + 1 ≤ (rest.length : Int) := by omega
        have x3 : (a.length : Int) ≤ (rest.length : Int) := by omega
        have x4 : ¬ ((a.length : Int) + 1 < 0) := by omega
        have x5 : ((a.length : Int) + 1).toNat = a.length + 1 := by omega
        clear hq hl0 hli hab hn
        go_enter Tryz.func11, Tryz.ntmps11
        go_wp2_with fail
        refine (HC.out _).mono ?_
        rintro e w1 ⟨rfl, n1, rfl⟩
        go_wp2_with fail
        refine Calls.mono (HLI.out _) ?_
        rintro e w2 ⟨rfl, hb⟩
        have Kw2 : Hid (RkAt w w2 #[.int .u8 118, .string ⟨#[]⟩, .string ⟨#[]⟩, .int .i64 0, .int .i64 0]) := Lib.hid (RkAt.later ⟨by first | exact heap_at1 _ _ _ | simp, by first | exact (Below.heap_alloc _ _ _ (by simp)).trans (heap_alloc_new _ _) | simp, (by repeat (first | exact Below.refl _ _ | assumption | (refine belowDrewN ?_ _) | (refine Below.alloc ?_ (by first | (simp; done) | (simp; omega) | omega) _) | (refine Below.setCell ?_ (by first | (simp; done) | (simp; omega) | omega) _)))⟩ hb)
        clear hb
        go_wp2_with fail
        first | rw [extractL_drop, HDB.out] | (rw [x5, extractL_drop, HDB.out])
        refine Calls.mono (readNumber_any b _ (HG.out _ Kw2.out.b).g (by omega)) ?_
        rintro e w3 ⟨rfl, hb⟩
        have Kw3 : Hid (RkAt w w3 #[.int .u8 118, .string ⟨#[]⟩, .string ⟨#[]⟩, .int .i64 0, .int .i64 0]) := Lib.hid (RkAt.later Kw2.out hb)
        clear hb
        rw [HN.out]
        clear HN
        go_wp2_with (refine wpList_store_at (by rfl) 3 _ _ (by rfl) (w.heap.size + 1) 3 (.int .i64 n) (by rfl) (by rfl) (by rfl) _ 25 (by exact (Kw3.out).x) (by simp) (by kernel_rfl) ?_)
        rw [extractL_take, HTA.out]
        refine Calls.mono (HC2.out _) ?_
        rintro e w4 ⟨rfl, hb⟩
        have Kw4 : Hid (RkAt w w4 #[.int .u8 118, .string ⟨#[]⟩, .string ⟨#[]⟩, .int .i64 n, .int .i64 0]) := Lib.hid (RkAt.later (Kw3.out.set _) hb)
        clear hb
        go_wp2_with (first
          | (refine wpList_store_at (by rfl) 9 _ _ (by rfl) (w.heap.size + 1) 1 (.string ⟨qa.toArray⟩) (by rfl) (by rfl) (by rfl) _ 25 (by exact (Kw4.out).x) (by simp) (by kernel_rfl) ?_)
          | (refine wpList_store_at (by rfl) 9 _ _ (by rfl) (w.heap.size + 1) 2 (.string ⟨qb.toArray⟩) (by rfl) (by rfl) (by rfl) _ 25 (by exact (Kw4.out.set _).x) (by simp) (by kernel_rfl) ?_)
          | (refine wpList_load_row (by rfl) 25 _ (by rfl) (w.heap.size + 1) (by rfl) 25 _ (0, 0) _ (by exact ((Kw4.out.set _).set _).x) Tryz.underlying25 rfl (by kernel_rfl) ?_))
        have hok : PlaceV.OK ⟨118, qa, qb, n, 0⟩ := ⟨hnn, by unfold IntOK; simp, by simp only; omega, by simp only; omega⟩
        refine Calls.mono (placeKey_any ⟨118, qa, qb, n, 0⟩ hok _ (HG.out _ ((Kw4.out.set _).set _).b)) ?_
        rintro e w5 ⟨rfl, hb5⟩
        have K5 := Lib.hid (RkAt.later ((Kw4.out.set _).set _) hb5)
        have HX := Lib.hid K5.out.x
        have HZ5 := Lib.hid K5.out.z
        have B5 := Lib.hid K5.out.b
        clear hb5 hok
        obtain ⟨R, hRR⟩ : ∃ R, Hid (placeKeyL ⟨118, qa, qb, n, 0⟩ = R) := ⟨_, rfl⟩
        rw [hRR.out] at HR ⊢
        cases R with
        | nil =>
          have HF : Hid (res = none) := by show _ = _; rw [HR.out, if_neg (fun h => h.1 rfl)]
          go_wp2_with (refine wpList_store_row (by rfl) 25 _ _ (by rfl) w.heap.size placeZero (by rfl) (by rfl) 25 _ (by exact HZ5.out) (by kernel_rfl) (by kernel_rfl) (by kernel_rfl) ?_)
          refine bodyPost_ret (results_cell_tmp rfl _ _ w.heap.size 25 _ _ rfl (setRow_heap _ _ _ _ _ _ HZ5.out) Tryz.underlying25 rfl (by kernel_rfl)) rfl ?_
          rw [HF.out]
          exact ⟨rfl, below_one_row _ _ _ _ _ B5.out (Nat.le_refl _)⟩
        | cons r0 rr =>
          cases hq : (r0 :: rr == s)
          · have HF : Hid (res = none) := by show _ = _; rw [HR.out, if_neg (fun h => by rw [beq_eq_false_iff_ne] at hq; exact hq h.2)]
            go_wp2_with (refine wpList_store_row (by rfl) 25 _ _ (by rfl) w.heap.size placeZero (by rfl) (by rfl) 25 _ (by exact HZ5.out) (by kernel_rfl) (by kernel_rfl) (by kernel_rfl) ?_)
            refine bodyPost_ret (results_cell_tmp rfl _ _ w.heap.size 25 _ _ rfl (setRow_heap _ _ _ _ _ _ HZ5.out) Tryz.underlying25 rfl (by kernel_rfl)) rfl ?_
            rw [HF.out]
            exact ⟨rfl, below_one_row _ _ _ _ _ B5.out (Nat.le_refl _)⟩
          · have HF : Hid (res = some ⟨118, qa, qb, n, 0⟩) := by show _ = _; rw [HR.out, if_pos ⟨by simp, beq_iff_eq.1 hq⟩]
            go_wp2_with (first
              | (refine wpList_load_row (by rfl) 25 _ (by rfl) (w.heap.size + 1) (by rfl) 25 _ (0, 0) _ (by exact HX.out) Tryz.underlying25 rfl (by kernel_rfl) ?_)
              | (refine wpList_store_row (by rfl) 25 _ _ (by rfl) w.heap.size _ (by rfl) (by rfl) 25 _ (by exact HZ5.out) (by kernel_rfl) (by kernel_rfl) (by kernel_rfl) ?_))
            refine bodyPost_ret (results_cell_tmp rfl _ _ w.heap.size 25 _ _ rfl (setRow_heap _ _ _ _ _ _ HZ5.out) Tryz.underlying25 rfl (by kernel_rfl)) rfl ?_
            rw [HF.out]
            exact ⟨rfl, below_one_row _ _ _ _ _ B5.out (Nat.le_refl _)⟩
    have nat : ∀ c : UInt8, k ≠ c → ((k.toNat : Int) == (c.toNat : Int)) = false := fun c hc => by
      rw [beq_eq_false_iff_ne]
      intro e
      exact hc (UInt8.toNat_inj.1 (by omega))
    have y1 : ((k.toNat : Int) == 98) = false := nat 98 hk98
    have y2 : ((k.toNat : Int) == 118) = false := nat 118 hk118
    have y3 : ((k.toNat : Int) == 112) = false := nat 112 hk112
    have y4 : ((k.toNat : Int) == 117) = false := nat 117 hk117
    have y5 : ((k.toNat : Int) == 100) = false := nat 100 hk100
    have y6 : ((k.toNat : Int) == 110) = false := nat 110 hk110
    have HF : Hid (res = none) := by
      show _ = _
      rw [HR.out]
      have ne : ∀ c : UInt8, k ≠ c → ¬ (k.toNat = c.toNat) := fun c hc e => hc (UInt8.toNat_inj.1 e)
      have : candOf k rest = none := by
        unfold candOf
        rw [if_neg (show ¬ k.toNat = 98 from ne 98 hk98), if_neg (show ¬ k.toNat = 118 from ne 118 hk118), if_neg (show ¬ k.toNat = 112 from ne 112 hk112), if_neg (show ¬ k.toNat = 117 from ne 117 hk117), if_neg (show ¬ k.toNat = 100 from ne 100 hk100), if_neg (show ¬ k.toNat = 110 from ne 110 hk110)]
      rw [this]
    clear nat HR hk98 hk118 hk112 hk117 hk100 hk110
    go_enter Tryz.func11, Tryz.ntmps11
    go_wp2_with fail
    refine (HC.out _).mono ?_
    rintro e w1 ⟨rfl, n1, rfl⟩
    go_wp2_with (refine wpList_store_row (by rfl) 25 _ _ (by rfl) w.heap.size placeZero (by rfl) (by rfl) 25 _ (by first | exact (Below.heap_alloc _ _ _ (by simp)).trans (heap_alloc_new _ _) | simp) (by kernel_rfl) (by kernel_rfl) (by kernel_rfl) ?_)
    refine bodyPost_ret (results_cell_tmp rfl _ _ w.heap.size 25 _ _ rfl (setRow_heap _ _ _ _ _ _ (by first | exact (Below.heap_alloc _ _ _ (by simp)).trans (heap_alloc_new _ _) | simp)) Tryz.underlying25 rfl (by kernel_rfl)) rfl ?_
    rw [HF.out]
    exact ⟨rfl, below_one_row _ _ _ _ _ (by repeat (first | exact Below.refl _ _ | assumption | (refine belowDrewN ?_ _) | (refine Below.alloc ?_ (by first | (simp; done) | (simp; omega) | omega) _) | (refine Below.setCell ?_ (by first | (simp; done) | (simp; omega) | omega) _))) (Nat.le_refl _)⟩
  · have y1 : ((hd.length : Int) != 1) = true := by rw [bne_iff_ne]; omega
    have y2 : ((hd.length : Int) == 1) = false := by rw [beq_eq_false_iff_ne]; omega
    have HF : Hid (res = none) := by
      show _ = _
      rw [HR.out]
      cases hd with
      | nil => rfl
      | cons c r => cases r with
        | nil => simp at h1
        | cons _ _ => rfl
    clear HR h1
    go_enter Tryz.func11, Tryz.ntmps11
    go_wp2_with fail
    refine (HC.out _).mono ?_
    rintro e w1 ⟨rfl, n1, rfl⟩
    go_wp2_with (refine wpList_store_row (by rfl) 25 _ _ (by rfl) w.heap.size placeZero (by rfl) (by rfl) 25 _ (by first | exact heap_alloc_new _ _ | simp) (by kernel_rfl) (by kernel_rfl) (by kernel_rfl) ?_)
    refine bodyPost_ret (results_cell_tmp rfl _ _ w.heap.size 25 _ _ rfl (setRow_heap _ _ _ _ _ _ (by first | exact heap_alloc_new _ _ | simp)) Tryz.underlying25 rfl (by kernel_rfl)) rfl ?_
    rw [HF.out]
    exact ⟨rfl, below_one_row _ _ _ _ _ (by repeat (first | exact Below.refl _ _ | assumption | (refine belowDrewN ?_ _) | (refine Below.alloc ?_ (by first | (simp; done) | (simp; omega) | omega) _) | (refine Below.setCell ?_ (by first | (simp; done) | (simp; omega) | omega) _))) (Nat.le_refl _)⟩
  
  end Go.Proofs.YtajmkkjlhmeolaaGreatDoor
