/-
  digest.Base64: it is enc64.
-/
import Derived.Test.YtgklbmcnpnmkkaaDoorSm25
import Derived.Test.YtgklbmcnpnmkkaaDoorLsRow
import Derived.Test.YtgklbmcnpnmkkaaDoorLsPage
import Derived.Lib.BufferWrite
import Derived.Lib.SlBuf
import Derived.Deep.DeepAppendWide
namespace Go.Proofs.YtgklbmcnpnmkkaaDoor
open Go.RowKit Go.Lib

theorem bits_or_nat (a b : Nat) (ha : a < 4294967296) (hb : b < 4294967296) : bits .or .i64 (a : Int) (b : Int) = ((a ||| b : Nat) : Int) := (bits_nat .i64 32 (by decide) (fun n h0 h1 => by rw [IntKind.wrap_i64]; omega) a b ha hb).2
theorem or_add (x y k : Nat) (hy : y < 2 ^ k) : (x * 2 ^ k) ||| y = x * 2 ^ k + y := by
  rw [Nat.mul_comm]
  exact (Nat.two_pow_add_eq_or_of_lt hy x).symm
theorem and63 (n : Nat) (hn : n < 4294967296) : bits .and .i64 (n : Int) 63 = ((n % 64 : Nat) : Int) := by
  have h := (bits_nat .i64 32 (by decide) (fun n h0 h1 => by rw [IntKind.wrap_i64]; omega) n 63 hn (by decide)).1
  rw [show ((63 : Nat) : Int) = 63 from rfl] at h
  rw [h, show (63 : Nat) = 2 ^ 6 - 1 from rfl, Nat.and_two_pow_sub_one_eq_mod]
theorem enc64_len : ∀ s : List UInt8, (enc64 s).length = 4 * ((s.length + 2) / 3)
  | [] => rfl
  | [a] => by simp [enc64, fourL]
  | [a, b] => by simp [enc64, fourL]
  | a :: b :: c :: l => by
    simp only [enc64, fourL, List.length_append, List.length_cons, List.length_nil, enc64_len l]
    omega
def sixL : List UInt8 := [65, 66, 67, 68, 69, 70, 71, 72, 73, 74, 75, 76, 77, 78, 79, 80, 81, 82, 83, 84, 85, 86, 87, 88, 89, 90, 97, 98, 99, 100, 101, 102, 103, 104, 105, 106, 107, 108, 109, 110, 111, 112, 113, 114, 115, 116, 117, 118, 119, 120, 121, 122, 48, 49, 50, 51, 52, 53, 54, 55, 56, 57, 43, 47]
theorem sixL_at : ∀ n : Nat, (h : n < 64) → sixL[n]? = some (sx n) := by
  have h : ∀ n : Fin 64, sixL[n.val]? = some (sx n.val) := by decide +kernel
  exact fun n hn => h ⟨n, hn⟩
theorem copy3 {P : Program} (w : World) (dT sT ty elem : TypeId) (g dCap : Nat) (s : List UInt8) (cur : Array Value) (t : TypeId)
    (hu : P.underlying dT = some (.slice elem)) (hs : (P.info? elem).map (·.size) = some 1) (hg : w.heap[g]? = some (.cells cur t (0, 0))) (hfit : 3 ≤ cur.size) :
    (Builtin.copy_ #[dT, sT] ty #[.slice (some ⟨g, 0, none⟩) 3 dCap, .string ⟨s.toArray⟩]).run P w =
      .ok (.int .i64 ((s.take 3).length : Nat)) (w.setRow g (byteCells (s.take 3) ++ cur.toList.drop (s.take 3).length).toArray) := by
  have hl3 : (s.take 3).length ≤ 3 := by rw [List.length_take]; omega
  have hlen : (byteCells (s.take 3)).length = (s.take 3).length := byteCells_length _
  have hst := run_storeCells_at P g 0 t (byteCells (s.take 3)) 0 cur w hg (by rw [hlen]; omega) (byteCells_one _)
  rw [hlen] at hst
  simp only [Nat.zero_add, List.take_zero, List.nil_append] at hst
  have hmin : Nat.min s.length 3 = (s.take 3).length := by rw [List.length_take]; exact Nat.min_comm _ _
  have htk : List.take (s.take 3).length (List.map (fun b : UInt8 => Value.int IntKind.u8 (b.toNat : Int)) s) = byteCells (s.take 3) := by
    unfold byteCells
    rw [← List.map_take]
    congr 1
    rw [List.length_take, List.take_eq_take_iff]
    omega
  cases hq : P.info? elem with
  | none => simp [hq] at hs
  | some i =>
    simp [Builtin.copy_, run_underlying hu, Builtin.lenOf, Builtin.firstCells, sizeOf, typeInfo, hq]
    rw [show (⟨s.toArray⟩ : ByteArray).size.min 3 = (s.take 3).length from hmin, htk, hst]
    simp [Result.andThen, goInt]
theorem info_byte : ∃ i, Tryd.prog.info? 5 = some i ∧ i.zero = some (.int .u8 0) ∧ i.size = 1 ∧ i.bytes = 1 :=
  info_parts (show (Tryd.prog.info? 5).map (fun i => (i.zero, i.size, i.bytes)) = some (some (.int .u8 0), 1, 1) by kernel_rfl)

def sixS : ByteArray := ⟨#[65, 66, 67, 68, 69, 70, 71, 72, 73, 74, 75, 76, 77, 78, 79, 80, 81, 82, 83, 84, 85, 86, 87, 88, 89, 90, 97, 98, 99, 100, 101, 102, 103, 104, 105, 106, 107, 108, 109, 110, 111, 112, 113, 114, 115, 116, 117, 118, 119, 120, 121, 122, 48, 49, 50, 51, 52, 53, 54, 55, 56, 57, 43, 47]⟩
theorem index64 (k : Nat) (hk : k < 64) (w : World) : (Instr.index 9 (.string sixS) (.int .i64 (k : Int))).run Tryd.prog w = .ok (.int .u8 ((sx k).toNat : Int)) w := by
  have h : ∀ k : Fin 64, sixS[k.val]? = some (sx k.val) := by decide +kernel
  have h1 : sixS[k]? = some (sx k) := h ⟨k, hk⟩
  have hs : sixS.size = 64 := rfl
  have ut := Tryd.underlying9
  have ha : (asIntOf (Value.int .i64 (k : Int))).run Tryd.prog w = .ok (.i64, (k : Int)) w := rfl
  simp [Instr.index, run_underlying ut, hs, ha, Result.andThen, h1]
/-- an operation that takes one of the sixty-four -/
theorem index64_op {o : Oper} {a : Act} {x : Operand} {k : Nat} (ho : o.op = .index 9 (.const (.string sixS)) x) (hx : a.eval x = .int .i64 (k : Int)) (hk : k < 64) (w : World) : (execOp a.eval o).run Tryd.prog w = .ok (.value (.int .u8 ((sx k).toNat : Int))) w := by
  have hc : a.eval (.const (.string sixS)) = .string sixS := rfl
  unfold execOp
  simp only [ho, hx, hc, Sem.run_bind, Sem.run_pure, Result.andThen_ok, index64 k hk w]
theorem or3 (a b c : Nat) (ha : a < 256) (hb : b < 256) (hc : c < 256) : bits .or .i64 (bits .or .i64 (wrap64 (wrap64 (a : Int) * 65536)) (wrap64 (wrap64 (b : Int) * 256))) (wrap64 (c : Int)) = ((a * 65536 + b * 256 + c : Nat) : Int) := by
  have w1 : wrap64 (wrap64 (a : Int) * 65536) = ((a * 65536 : Nat) : Int) := by unfold wrap64; omega
  have w2 : wrap64 (wrap64 (b : Int) * 256) = ((b * 256 : Nat) : Int) := by unfold wrap64; omega
  have w3 : wrap64 (c : Int) = (c : Int) := by unfold wrap64; omega
  rw [w1, w2, w3, bits_or_nat _ _ (by omega) (by omega)]
  have h1 : (a * 65536) ||| (b * 256) = a * 65536 + b * 256 := or_add a (b * 256) 16 (by omega)
  rw [h1, bits_or_nat _ _ (by omega) (by omega)]
  have h2 : (a * 65536 + b * 256) ||| c = a * 65536 + b * 256 + c := by
    have := or_add (a * 256 + b) c 8 (by omega)
    rw [show (a * 256 + b) * 2 ^ 8 = a * 65536 + b * 256 by omega] at this
    exact this
  rw [h2]
theorem or3_2 (a b : Nat) (ha : a < 256) (hb : b < 256) : bits .or .i64 (bits .or .i64 (wrap64 (wrap64 (a : Int) * 65536)) (wrap64 (wrap64 (b : Int) * 256))) 0 = ((a * 65536 + b * 256 : Nat) : Int) := by
  have h := or3 a b 0 ha hb (by omega)
  rw [show wrap64 ((0 : Nat) : Int) = 0 from by unfold wrap64; omega, Nat.add_zero] at h
  exact h
theorem or3_1 (a : Nat) (ha : a < 256) : bits .or .i64 (bits .or .i64 (wrap64 (wrap64 (a : Int) * 65536)) 0) 0 = ((a * 65536 : Nat) : Int) := by
  have h := or3_2 a 0 ha (by omega)
  rw [show wrap64 (wrap64 ((0 : Nat) : Int) * 256) = 0 from by unfold wrap64; omega, Nat.zero_mul, Nat.add_zero] at h
  exact h
theorem extractL_tail (l : List UInt8) (m : Nat) : (⟨l.toArray⟩ : ByteArray).extract m l.length = ⟨(l.drop m).toArray⟩ := by
  have h : ((⟨l.toArray⟩ : ByteArray).extract m l.length).data.toList = l.drop m := by simp [List.take_of_length_le]
  rw [← h]
theorem wp_store_rowK {P : Program} {o : Oper} {a : Act} {w : World} {K : Act → World → Prop} {Q : Exit → Act → World → Prop} (ty : TypeId) (x y : Operand) (ho : o.op = .store ty x y)
    (g : Nat) (cells : Array Value) (hx : a.eval x = .pointer (some ⟨g, 0, none⟩)) (hy : a.eval y = .agg cells)
    (t : TypeId) (old : Array Value) (hg : w.heap[g]? = some (.cells old t (0, 0))) (hi : (P.info? ty).map (·.size) = some cells.size)
    (hold : old.size = cells.size) (h1 : cells.all (·.oneCell') = true) (p : World → Prop) (hp : p (w.setRow g cells))
    (h : ∀ W, p W → K (a.put o.dst undef) W) : o.wp P a w K Q :=
  wp_store_row ty x y ho g cells hx hy t old hg hi hold h1 (h _ hp)
theorem own_text {w : World} {base : Nat} {v : Value} {l : List UInt8} (h : w.ownsRow base 5 1 v l.length (byteCells l)) : (convert 75 9 v).run Tryd.prog w = .ok (.string ⟨l.toArray⟩) w := by
  rcases h.2 with ⟨rfl, h0⟩ | ⟨g, cap, cur, rfl, _, hg, _, _, _, ht⟩
  · obtain rfl := List.eq_nil_of_length_eq_zero h0
    rw [run_convert_bytes_string w 75 9 5 none 0 0 Tryd.underlying75 Tryd.underlying5 Tryd.underlying9]
    simp [Conv.bytesToString]
    rfl
  · refine run_convert_bytes_back w _ _ _ _ cap l Tryd.underlying75 Tryd.underlying5 Tryd.underlying9 (fun j hj => ?_)
    rw [Addr.add_lit, cell_of_heap hg]
    have h1 : (byteCells l)[j]? = some (.int .u8 (l[j].toNat : Int)) := by simp [byteCells, hj]
    rw [← ht, List.getElem?_take, if_pos (by omega), Array.getElem?_toList] at h1
    rw [Nat.zero_add]
    exact h1
def B64Out (s : List UInt8) (w : World) (e : Ending) (w' : World) : Prop := e = .returned (.string ⟨(enc64 s).toArray⟩) ∧ Below w.heap.size w w'
structure B64At (w wr : World) (s out rest : List UInt8) (v : Value) : Prop where
  own : wr.ownsRow w.heap.size 5 1 v out.length (byteCells out)
  eq : enc64 s = out ++ enc64 rest
  below : Below w.heap.size w wr

set_option maxHeartbeats 16000000 in
set_option maxRecDepth 100000 in
theorem base64_any (s : List UInt8) (w : World) (hl : s.length ≤ 140737488355400) : Calls Tryd.prog 32 #[.string ⟨s.toArray⟩] w (B64Out s w) := by
  obtain ⟨i0, hi, hz0, hz1, hz2⟩ := info_byte
  go_enter Tryd.func32, Tryd.ntmps32
  go_wp2_with fail
  go_loopg [0, 3] s.length (fun gg s0 s3 wr => ∃ (out rest : List UInt8) (v : Value), rest.length ≤ gg ∧ s0 = .string ⟨rest.toArray⟩ ∧ s3 = v ∧ Hid (B64At w wr s out rest v))
  case atStart => exact ⟨[], s, _, Nat.le_refl _, rfl, rfl, World.ownsRow_nil _ _ _ _, rfl, Below.refl _ _⟩
  case round =>
    obtain ⟨out, rest, v, hg, rfl, hv, HB⟩ := hrel
    obtain ⟨av, cv, hva⟩ := own_form HB.out.own
    rw [hva] at hv
    subst hv hva
    match rest, HB, hg with
    | [], HB, _ =>
      have HEQ := Lib.hid HB.out.eq
      have HO := Lib.hid HB.out.own
      have HBB := Lib.hid HB.out.below
      have hcv := own_text HB.out.own
      go_wp2_with fail
      go_ret
      refine ⟨?_, HBB.out⟩
      rw [HEQ.out]
      simp [enc64]
    | [x], HB, hg =>
      have hcp : (Builtin.copy_ #[75, 9] 3 #[.slice (some ⟨wr.heap.size, 0, none⟩) 3 3, .string ⟨([x]).toArray⟩]).run Tryd.prog (wr.alloc (.cells #[.int .u8 0, .int .u8 0, .int .u8 0] 76)) =
          .ok (.int .i64 1) (wr.alloc (.cells #[.int .u8 (x.toNat : Int), .int .u8 0, .int .u8 0] 76)) := by
        have := copy3 (P := Tryd.prog) (wr.alloc (.cells #[.int .u8 0, .int .u8 0, .int .u8 0] 76)) 75 9 3 5 wr.heap.size 3 ([x]) _ 76 Tryd.underlying75 (by rw [hi]; simp [hz1]) (heap_alloc_new _ _) (by decide)
        rw [setRow_alloc _ _ _ _ _ rfl] at this
        exact this
      obtain ⟨N, hNe⟩ : ∃ N : Nat, x.toNat * 65536 = N := ⟨_, rfl⟩
      have hN64 : N < 16777216 := by have hx := x.toNat_lt; omega
      have hN : bits .or .i64 (bits .or .i64 (wrap64 (wrap64 (x.toNat : Int) * 65536)) (0)) (0) = (N : Int) := by
        rw [← hNe]
        exact or3_1 x.toNat x.toNat_lt
      have hex : (⟨([x]).toArray⟩ : ByteArray).extract 1 1 = ⟨([]).toArray⟩ := by
        rfl
      have HN := Lib.hid hNe
      have HEQ := Lib.hid HB.out.eq
      clear hNe
      go_upto_region 7 with fail
      clear hN hex hcp
      obtain ⟨q1, hq1⟩ : ∃ q : Nat, N / 262144 = q := ⟨_, rfl⟩
      obtain ⟨q2, hq2⟩ : ∃ q : Nat, N / 4096 = q := ⟨_, rfl⟩
      obtain ⟨q3, hq3⟩ : ∃ q : Nat, N / 64 = q := ⟨_, rfl⟩
      obtain ⟨r2, hr2⟩ : ∃ q : Nat, q2 % 64 = q := ⟨_, rfl⟩
      obtain ⟨r3, hr3⟩ : ∃ q : Nat, q3 % 64 = q := ⟨_, rfl⟩
      obtain ⟨r4, hr4⟩ : ∃ q : Nat, N % 64 = q := ⟨_, rfl⟩
      have f18 : (N : Int) / 262144 = (q1 : Int) := by omega
      have f12 : (N : Int) / 4096 = (q2 : Int) := by omega
      have f6 : (N : Int) / 64 = (q3 : Int) := by omega
      have a2 : bits .and .i64 (q2 : Int) 63 = (r2 : Int) := by rw [and63 _ (by omega), hr2]
      have a3 : bits .and .i64 (q3 : Int) 63 = (r3 : Int) := by rw [and63 _ (by omega), hr3]
      have a4 : bits .and .i64 (N : Int) 63 = (r4 : Int) := by rw [and63 _ (by omega), hr4]
      have HQ : Hid (q1 < 64 ∧ r2 < 64 ∧ r3 < 64 ∧ r4 < 64) := ⟨by omega, by omega, by omega, by omega⟩
      have HF : Hid (fourL N = [sx q1, sx r2, sx r3, sx r4]) := by show _ = _; unfold fourL; rw [hq1, hq2, hr2, hq3, hr3, hr4]
      clear hq1 hq2 hq3 hr2 hr3 hr4 hN64
      refine drawn_k (S := fun _ => True) (by kernel_rfl) trivial (fun hS0 K0 hK0 => ?_)
      refine wpAnyH_take (i := 0) (oi := { dst := some 31, op := _, type := _, pos := _, after := _, guard := _ }) (v := ?_) rfl (by kernel_rfl) (by kernel_rfl) (by kernel_rfl) (fun _ _ _ h => h) (Or.inl ⟨by kernel_rfl, ?_⟩) (by assumption) ?_
      rotate_left
      · (intro w hSw; (try dsimp only at hSw); go_simp); all_goals (with_reducible rfl)
      try simp only [Act.put, List.setIfInBounds_toArray, List.set_cons_zero, List.set_cons_succ]
      refine wpAnyH_take (i := 1) (oi := { dst := some 32, op := _, type := _, pos := _, after := _, guard := _ }) (v := ?_) rfl (by kernel_rfl) (by kernel_rfl) (by kernel_rfl) (fun _ _ _ h => h) (Or.inl ⟨by kernel_rfl, ?_⟩) (by assumption) ?_
      rotate_left
      · (intro w hSw; (try dsimp only at hSw); go_simp); all_goals (with_reducible rfl)
      try simp only [Act.put, List.setIfInBounds_toArray, List.set_cons_zero, List.set_cons_succ]
      refine wpAnyH_take (i := 2) (oi := { dst := some 33, op := _, type := _, pos := _, after := _, guard := _ }) (v := .int .u8 ((sx q1).toNat : Int)) rfl (by kernel_rfl) (by kernel_rfl) (by kernel_rfl) (fun _ _ _ h => h) (Or.inl ⟨by kernel_rfl, fun w _ => index64_op (by rfl) (by rfl) (by exact HQ.out.1) w⟩) (by assumption) ?_
      try simp only [Act.put, List.setIfInBounds_toArray, List.set_cons_zero, List.set_cons_succ]
      refine wpAnyH_take (i := 3) (oi := { dst := some 34, op := _, type := _, pos := _, after := _, guard := _ }) (v := ?_) rfl (by kernel_rfl) (by kernel_rfl) (by kernel_rfl) (fun _ _ _ h => h) (Or.inl ⟨by kernel_rfl, ?_⟩) (by assumption) ?_
      rotate_left
      · (intro w hSw; (try dsimp only at hSw); go_simp); all_goals (with_reducible rfl)
      try simp only [Act.put, List.setIfInBounds_toArray, List.set_cons_zero, List.set_cons_succ]
      refine wpAnyH_take (i := 4) (oi := { dst := some 35, op := _, type := _, pos := _, after := _, guard := _ }) (v := ?_) rfl (by kernel_rfl) (by kernel_rfl) (by kernel_rfl) (fun _ _ _ h => h) (Or.inl ⟨by kernel_rfl, ?_⟩) (by assumption) ?_
      rotate_left
      · (intro w hSw; (try dsimp only at hSw); go_simp); all_goals (with_reducible rfl)
      try simp only [Act.put, List.setIfInBounds_toArray, List.set_cons_zero, List.set_cons_succ]
      refine wpAnyH_take (i := 5) (oi := { dst := some 36, op := _, type := _, pos := _, after := _, guard := _ }) (v := ?_) rfl (by kernel_rfl) (by kernel_rfl) (by kernel_rfl) (fun _ _ _ h => h) (Or.inl ⟨by kernel_rfl, ?_⟩) (by assumption) ?_
      rotate_left
      · (intro w hSw; (try dsimp only at hSw); go_simp); all_goals (with_reducible rfl)
      try simp only [Act.put, List.setIfInBounds_toArray, List.set_cons_zero, List.set_cons_succ]
      refine wpAnyH_take (i := 6) (oi := { dst := some 37, op := _, type := _, pos := _, after := _, guard := _ }) (v := .int .u8 ((sx r2).toNat : Int)) rfl (by kernel_rfl) (by kernel_rfl) (by kernel_rfl) (fun _ _ _ h => h) (Or.inl ⟨by kernel_rfl, fun w _ => index64_op (by rfl) (by rfl) (by exact HQ.out.2.1) w⟩) (by assumption) ?_
      try simp only [Act.put, List.setIfInBounds_toArray, List.set_cons_zero, List.set_cons_succ]
      refine wpAnyH_take (i := 7) (oi := { dst := some 38, op := _, type := _, pos := _, after := _, guard := _ }) (v := ?_) rfl (by kernel_rfl) (by kernel_rfl) (by kernel_rfl) (fun _ _ _ h => h) (Or.inl ⟨by kernel_rfl, ?_⟩) (by assumption) ?_
      rotate_left
      · (intro w hSw; (try dsimp only at hSw); go_simp); all_goals (with_reducible rfl)
      try simp only [Act.put, List.setIfInBounds_toArray, List.set_cons_zero, List.set_cons_succ]
      refine wpAnyH_take (i := 8) (oi := { dst := some 39, op := _, type := _, pos := _, after := _, guard := _ }) (v := ?_) rfl (by kernel_rfl) (by kernel_rfl) (by kernel_rfl) (fun _ _ _ h => h) (Or.inl ⟨by kernel_rfl, ?_⟩) (by assumption) ?_
      rotate_left
      · (intro w hSw; (try dsimp only at hSw); go_simp); all_goals (with_reducible rfl)
      try simp only [Act.put, List.setIfInBounds_toArray, List.set_cons_zero, List.set_cons_succ]
      refine wpAnyH_take (i := 9) (oi := { dst := some 40, op := _, type := _, pos := _, after := _, guard := _ }) (v := ?_) rfl (by kernel_rfl) (by kernel_rfl) (by kernel_rfl) (fun _ _ _ h => h) (Or.inl ⟨by kernel_rfl, ?_⟩) (by assumption) ?_
      rotate_left
      · (intro w hSw; (try dsimp only at hSw); go_simp); all_goals (with_reducible rfl)
      try simp only [Act.put, List.setIfInBounds_toArray, List.set_cons_zero, List.set_cons_succ]
      refine wpAnyH_take (i := 10) (oi := { dst := some 41, op := _, type := _, pos := _, after := _, guard := _ }) (v := .int .u8 ((sx r3).toNat : Int)) rfl (by kernel_rfl) (by kernel_rfl) (by kernel_rfl) (fun _ _ _ h => h) (Or.inl ⟨by kernel_rfl, fun w _ => index64_op (by rfl) (by rfl) (by exact HQ.out.2.2.1) w⟩) (by assumption) ?_
      try simp only [Act.put, List.setIfInBounds_toArray, List.set_cons_zero, List.set_cons_succ]
      refine wpAnyH_take (i := 11) (oi := { dst := some 42, op := _, type := _, pos := _, after := _, guard := _ }) (v := ?_) rfl (by kernel_rfl) (by kernel_rfl) (by kernel_rfl) (fun _ _ _ h => h) (Or.inl ⟨by kernel_rfl, ?_⟩) (by assumption) ?_
      rotate_left
      · (intro w hSw; (try dsimp only at hSw); go_simp); all_goals (with_reducible rfl)
      try simp only [Act.put, List.setIfInBounds_toArray, List.set_cons_zero, List.set_cons_succ]
      refine wpAnyH_take (i := 12) (oi := { dst := some 43, op := _, type := _, pos := _, after := _, guard := _ }) (v := ?_) rfl (by kernel_rfl) (by kernel_rfl) (by kernel_rfl) (fun _ _ _ h => h) (Or.inl ⟨by kernel_rfl, ?_⟩) (by assumption) ?_
      rotate_left
      · (intro w hSw; (try dsimp only at hSw); go_simp); all_goals (with_reducible rfl)
      try simp only [Act.put, List.setIfInBounds_toArray, List.set_cons_zero, List.set_cons_succ]
      refine wpAnyH_take (i := 13) (oi := { dst := some 44, op := _, type := _, pos := _, after := _, guard := _ }) (v := .int .u8 ((sx r4).toNat : Int)) rfl (by kernel_rfl) (by kernel_rfl) (by kernel_rfl) (fun _ _ _ h => h) (Or.inl ⟨by kernel_rfl, fun w _ => index64_op (by rfl) (by rfl) (by exact HQ.out.2.2.2) w⟩) (by assumption) ?_
      try simp only [Act.put, List.setIfInBounds_toArray, List.set_cons_zero, List.set_cons_succ]
      refine wpAnyH_take (i := 14) (oi := { dst := some 45, op := _, type := _, pos := _, after := _, guard := _ }) (v := ?_) rfl (by kernel_rfl) (by kernel_rfl) (by kernel_rfl) (fun _ _ _ h => h) (Or.inl ⟨by kernel_rfl, ?_⟩) (by assumption) ?_
      rotate_left
      · (intro w hSw; (try dsimp only at hSw); go_simp); all_goals (with_reducible rfl)
      try simp only [Act.put, List.setIfInBounds_toArray, List.set_cons_zero, List.set_cons_succ]
      refine wpAnyH_ready (rs := [15]) (by kernel_rfl) (by simp) ?_
      refine (AllReadyH.cons (o := { dst := some 7, op := _, type := _, pos := _, after := _, guard := _ }) rfl (fun K hK => ?_) AllReadyH.nil)
      rw [if_pos (by kernel_rfl)]
      go_wp2_with fail
      refine hK.out _ _ trivial (fun _ => ?_)
      clear hK K
      try simp only [Act.put, List.setIfInBounds_toArray, List.set_cons_zero, List.set_cons_succ]
      refine wpAnyH_ready (rs := [16]) (by kernel_rfl) (by simp) ?_
      refine (AllReadyH.cons (o := { dst := none, op := _, type := _, pos := _, after := _, guard := _ }) rfl (fun K hK => ?_) AllReadyH.nil)
      rw [if_pos (by kernel_rfl)]
      refine wp_store_rowK 78 _ _ (by rfl) (wr.heap.size + 1) #[.int .u8 ((sx q1).toNat : Int), .int .u8 ((sx r2).toNat : Int), .int .u8 ((sx r3).toNat : Int), .int .u8 ((sx r4).toNat : Int)] (by first | rfl | (simp; rfl)) (by rfl) 78 #[.int .u8 0, .int .u8 0, .int .u8 0, .int .u8 0] (by exact heap_at1 _ _ _) (by kernel_rfl) (by kernel_rfl) (by kernel_rfl) (fun B : World => B.heap[wr.heap.size + 1]? = some (.cells #[.int .u8 ((sx q1).toNat : Int), .int .u8 ((sx r2).toNat : Int), .int .u8 ((sx r3).toNat : Int), .int .u8 ((sx r4).toNat : Int)] 78 (0, 0)) ∧ Below wr.heap.size wr B) ⟨setRow_heap _ _ _ _ _ _ (heap_at1 _ _ _), (((Below.refl _ wr).alloc (Nat.le_refl _) _).alloc (by simp) _).drew.trans ⟨rfl, rfl, rfl, by simp, fun k hk => setRow_other _ _ _ _ (by omega)⟩⟩ ?_
      rintro W4 ⟨h4, b4⟩
      refine hK.out _ _ trivial (fun _ => ?_)
      clear hK K
      try simp only [Act.put]
      refine wpAnyH_done (by kernel_rfl) ?_ _
      refine hK0 _ _ ?_

      have c40 : W4.cell? ⟨wr.heap.size + 1, 0, none⟩ = some (.int .u8 ((sx q1).toNat : Int)) := cell_of_heap h4
      have c41 : W4.cell? ⟨wr.heap.size + 1, 1, none⟩ = some (.int .u8 ((sx r2).toNat : Int)) := cell_of_heap h4
      have c42 : W4.cell? ⟨wr.heap.size + 1, 2, none⟩ = some (.int .u8 ((sx r3).toNat : Int)) := cell_of_heap h4
      have c43 : W4.cell? ⟨wr.heap.size + 1, 3, none⟩ = some (.int .u8 ((sx r4).toNat : Int)) := cell_of_heap h4
      have f4 := fun o => free_of_heap (x := o) h4
      have H4 := Lib.hid h4
      have B4 := Lib.hid b4
      clear h4 b4 hS0
      have H5 : Hid (((W4.setCell ⟨wr.heap.size + 1, 2, none⟩ (.int .u8 61)).setCell ⟨wr.heap.size + 1, 3, none⟩ (.int .u8 61)).heap[wr.heap.size + 1]? = some (.cells #[.int .u8 ((sx q1).toNat : Int), .int .u8 ((sx r2).toNat : Int), .int .u8 61, .int .u8 61] 78 (0, 0))) := by show _ = _; rw [heap_set (heap_set H4.out _)]; simp
      have B5 : Hid (Below wr.heap.size wr ((W4.setCell ⟨wr.heap.size + 1, 2, none⟩ (.int .u8 61)).setCell ⟨wr.heap.size + 1, 3, none⟩ (.int .u8 61))) := (B4.out.setCell (by simp) _).setCell (by simp) _
      have O5 : Hid (((W4.setCell ⟨wr.heap.size + 1, 2, none⟩ (.int .u8 61)).setCell ⟨wr.heap.size + 1, 3, none⟩ (.int .u8 61)).ownsRow w.heap.size 5 1 (.slice av out.length cv) out.length (byteCells out)) := own_later HB.out.own B5.out
      have hel := enc64_len s
      have hol : out.length + 4 ≤ (enc64 s).length := by
        rw [HEQ.out, List.length_append, enc64_len]
        simp only [List.length_cons, List.length_nil]
        omega
      have hz5 : w.heap.size ≤ wr.heap.size := HB.out.below.size
      have hz6 := B5.out.size
      go_wp2_with fail
      refine wp_loop_rounds 3 ?_
      rw [rounds_succ]
      go_wp2_with fail
      rw [rounds_succ]
      go_wp2_with fail
      rw [rounds_succ]
      go_wp2_with (at_builtin; refine wpList_append_own_wide _ rfl _ _ 75 rfl w.heap.size 5 i0 (.int .u8 0) 1 1 Tryd.underlying75 hi hz0 hz1 hz2 rfl (by decide) _ _ _ rfl O5.out ⟨wr.heap.size + 1, 0, none⟩ 4 4 (#[.int .u8 ((sx q1).toNat : Int), .int .u8 ((sx r2).toNat : Int), .int .u8 61, .int .u8 61] : Array Value).toList rfl rfl ?c1 ?c2 ?c3 ?c4 ?c5 ?_)
      case c1 =>
        intro j u hj
        exact (cell_of_heap H5.out).trans (by simpa using hj)
      case c2 => simp [Value.oneCell']
      case c3 => simp only [maxLen]; omega
      case c4 => omega
      case c5 => omega
      intro v' w7 hown' hgrow _
      have B7 : Below w.heap.size w w7 := (HB.out.below.trans (B5.out.mono hz5)).grown hgrow (Nat.le_trans hz5 B5.out.size) (fun k hk => (HB.out.own.lt k hk).1)
      go_wp2_with fail
      go_roundg (([] : List UInt8).length)
      case measure => simp at hg ⊢; omega
      case rel =>
        refine ⟨out ++ [sx q1, sx r2, 61, 61], ([] : List UInt8), v', Nat.le_refl _, rfl, rfl, ?_, ?_, B7⟩
        · rw [List.length_append]
          have e : byteCells (out ++ [sx q1, sx r2, 61, 61]) = byteCells out ++ (#[.int .u8 ((sx q1).toNat : Int), .int .u8 ((sx r2).toNat : Int), .int .u8 61, .int .u8 61] : Array Value).toList := by simp [byteCells]
          rw [e]
          exact hown'
        · rw [HEQ.out]
          simp only [enc64]
          rw [HN.out, HF.out]
          simp
    | [x, y], HB, hg =>
      have hcp : (Builtin.copy_ #[75, 9] 3 #[.slice (some ⟨wr.heap.size, 0, none⟩) 3 3, .string ⟨([x, y]).toArray⟩]).run Tryd.prog (wr.alloc (.cells #[.int .u8 0, .int .u8 0, .int .u8 0] 76)) =
          .ok (.int .i64 2) (wr.alloc (.cells #[.int .u8 (x.toNat : Int), .int .u8 (y.toNat : Int), .int .u8 0] 76)) := by
        have := copy3 (P := Tryd.prog) (wr.alloc (.cells #[.int .u8 0, .int .u8 0, .int .u8 0] 76)) 75 9 3 5 wr.heap.size 3 ([x, y]) _ 76 Tryd.underlying75 (by rw [hi]; simp [hz1]) (heap_alloc_new _ _) (by decide)
        rw [setRow_alloc _ _ _ _ _ rfl] at this
        exact this
      obtain ⟨N, hNe⟩ : ∃ N : Nat, x.toNat * 65536 + y.toNat * 256 = N := ⟨_, rfl⟩
      have hN64 : N < 16777216 := by have hx := x.toNat_lt; have hy := y.toNat_lt; omega
      have hN : bits .or .i64 (bits .or .i64 (wrap64 (wrap64 (x.toNat : Int) * 65536)) (wrap64 (wrap64 (y.toNat : Int) * 256))) (0) = (N : Int) := by
        rw [← hNe]
        exact or3_2 x.toNat y.toNat x.toNat_lt y.toNat_lt
      have hex : (⟨([x, y]).toArray⟩ : ByteArray).extract 2 2 = ⟨([]).toArray⟩ := by
        rfl
      have HN := Lib.hid hNe
      have HEQ := Lib.hid HB.out.eq
      clear hNe
      go_upto_region 7 with fail
      clear hN hex hcp
      obtain ⟨q1, hq1⟩ : ∃ q : Nat, N / 262144 = q := ⟨_, rfl⟩
      obtain ⟨q2, hq2⟩ : ∃ q : Nat, N / 4096 = q := ⟨_, rfl⟩
      obtain ⟨q3, hq3⟩ : ∃ q : Nat, N / 64 = q := ⟨_, rfl⟩
      obtain ⟨r2, hr2⟩ : ∃ q : Nat, q2 % 64 = q := ⟨_, rfl⟩
      obtain ⟨r3, hr3⟩ : ∃ q : Nat, q3 % 64 = q := ⟨_, rfl⟩
      obtain ⟨r4, hr4⟩ : ∃ q : Nat, N % 64 = q := ⟨_, rfl⟩
      have f18 : (N : Int) / 262144 = (q1 : Int) := by omega
      have f12 : (N : Int) / 4096 = (q2 : Int) := by omega
      have f6 : (N : Int) / 64 = (q3 : Int) := by omega
      have a2 : bits .and .i64 (q2 : Int) 63 = (r2 : Int) := by rw [and63 _ (by omega), hr2]
      have a3 : bits .and .i64 (q3 : Int) 63 = (r3 : Int) := by rw [and63 _ (by omega), hr3]
      have a4 : bits .and .i64 (N : Int) 63 = (r4 : Int) := by rw [and63 _ (by omega), hr4]
      have HQ : Hid (q1 < 64 ∧ r2 < 64 ∧ r3 < 64 ∧ r4 < 64) := ⟨by omega, by omega, by omega, by omega⟩
      have HF : Hid (fourL N = [sx q1, sx r2, sx r3, sx r4]) := by show _ = _; unfold fourL; rw [hq1, hq2, hr2, hq3, hr3, hr4]
      clear hq1 hq2 hq3 hr2 hr3 hr4 hN64
      refine drawn_k (S := fun _ => True) (by kernel_rfl) trivial (fun hS0 K0 hK0 => ?_)
      refine wpAnyH_take (i := 0) (oi := { dst := some 31, op := _, type := _, pos := _, after := _, guard := _ }) (v := ?_) rfl (by kernel_rfl) (by kernel_rfl) (by kernel_rfl) (fun _ _ _ h => h) (Or.inl ⟨by kernel_rfl, ?_⟩) (by assumption) ?_
      rotate_left
      · (intro w hSw; (try dsimp only at hSw); go_simp); all_goals (with_reducible rfl)
      try simp only [Act.put, List.setIfInBounds_toArray, List.set_cons_zero, List.set_cons_succ]
      refine wpAnyH_take (i := 1) (oi := { dst := some 32, op := _, type := _, pos := _, after := _, guard := _ }) (v := ?_) rfl (by kernel_rfl) (by kernel_rfl) (by kernel_rfl) (fun _ _ _ h => h) (Or.inl ⟨by kernel_rfl, ?_⟩) (by assumption) ?_
      rotate_left
      · (intro w hSw; (try dsimp only at hSw); go_simp); all_goals (with_reducible rfl)
      try simp only [Act.put, List.setIfInBounds_toArray, List.set_cons_zero, List.set_cons_succ]
      refine wpAnyH_take (i := 2) (oi := { dst := some 33, op := _, type := _, pos := _, after := _, guard := _ }) (v := .int .u8 ((sx q1).toNat : Int)) rfl (by kernel_rfl) (by kernel_rfl) (by kernel_rfl) (fun _ _ _ h => h) (Or.inl ⟨by kernel_rfl, fun w _ => index64_op (by rfl) (by rfl) (by exact HQ.out.1) w⟩) (by assumption) ?_
      try simp only [Act.put, List.setIfInBounds_toArray, List.set_cons_zero, List.set_cons_succ]
      refine wpAnyH_take (i := 3) (oi := { dst := some 34, op := _, type := _, pos := _, after := _, guard := _ }) (v := ?_) rfl (by kernel_rfl) (by kernel_rfl) (by kernel_rfl) (fun _ _ _ h => h) (Or.inl ⟨by kernel_rfl, ?_⟩) (by assumption) ?_
      rotate_left
      · (intro w hSw; (try dsimp only at hSw); go_simp); all_goals (with_reducible rfl)
      try simp only [Act.put, List.setIfInBounds_toArray, List.set_cons_zero, List.set_cons_succ]
      refine wpAnyH_take (i := 4) (oi := { dst := some 35, op := _, type := _, pos := _, after := _, guard := _ }) (v := ?_) rfl (by kernel_rfl) (by kernel_rfl) (by kernel_rfl) (fun _ _ _ h => h) (Or.inl ⟨by kernel_rfl, ?_⟩) (by assumption) ?_
      rotate_left
      · (intro w hSw; (try dsimp only at hSw); go_simp); all_goals (with_reducible rfl)
      try simp only [Act.put, List.setIfInBounds_toArray, List.set_cons_zero, List.set_cons_succ]
      refine wpAnyH_take (i := 5) (oi := { dst := some 36, op := _, type := _, pos := _, after := _, guard := _ }) (v := ?_) rfl (by kernel_rfl) (by kernel_rfl) (by kernel_rfl) (fun _ _ _ h => h) (Or.inl ⟨by kernel_rfl, ?_⟩) (by assumption) ?_
      rotate_left
      · (intro w hSw; (try dsimp only at hSw); go_simp); all_goals (with_reducible rfl)
      try simp only [Act.put, List.setIfInBounds_toArray, List.set_cons_zero, List.set_cons_succ]
      refine wpAnyH_take (i := 6) (oi := { dst := some 37, op := _, type := _, pos := _, after := _, guard := _ }) (v := .int .u8 ((sx r2).toNat : Int)) rfl (by kernel_rfl) (by kernel_rfl) (by kernel_rfl) (fun _ _ _ h => h) (Or.inl ⟨by kernel_rfl, fun w _ => index64_op (by rfl) (by rfl) (by exact HQ.out.2.1) w⟩) (by assumption) ?_
      try simp only [Act.put, List.setIfInBounds_toArray, List.set_cons_zero, List.set_cons_succ]
      refine wpAnyH_take (i := 7) (oi := { dst := some 38, op := _, type := _, pos := _, after := _, guard := _ }) (v := ?_) rfl (by kernel_rfl) (by kernel_rfl) (by kernel_rfl) (fun _ _ _ h => h) (Or.inl ⟨by kernel_rfl, ?_⟩) (by assumption) ?_
      rotate_left
      · (intro w hSw; (try dsimp only at hSw); go_simp); all_goals (with_reducible rfl)
      try simp only [Act.put, List.setIfInBounds_toArray, List.set_cons_zero, List.set_cons_succ]
      refine wpAnyH_take (i := 8) (oi := { dst := some 39, op := _, type := _, pos := _, after := _, guard := _ }) (v := ?_) rfl (by kernel_rfl) (by kernel_rfl) (by kernel_rfl) (fun _ _ _ h => h) (Or.inl ⟨by kernel_rfl, ?_⟩) (by assumption) ?_
      rotate_left
      · (intro w hSw; (try dsimp only at hSw); go_simp); all_goals (with_reducible rfl)
      try simp only [Act.put, List.setIfInBounds_toArray, List.set_cons_zero, List.set_cons_succ]
      refine wpAnyH_take (i := 9) (oi := { dst := some 40, op := _, type := _, pos := _, after := _, guard := _ }) (v := ?_) rfl (by kernel_rfl) (by kernel_rfl) (by kernel_rfl) (fun _ _ _ h => h) (Or.inl ⟨by kernel_rfl, ?_⟩) (by assumption) ?_
      rotate_left
      · (intro w hSw; (try dsimp only at hSw); go_simp); all_goals (with_reducible rfl)
      try simp only [Act.put, List.setIfInBounds_toArray, List.set_cons_zero, List.set_cons_succ]
      refine wpAnyH_take (i := 10) (oi := { dst := some 41, op := _, type := _, pos := _, after := _, guard := _ }) (v := .int .u8 ((sx r3).toNat : Int)) rfl (by kernel_rfl) (by kernel_rfl) (by kernel_rfl) (fun _ _ _ h => h) (Or.inl ⟨by kernel_rfl, fun w _ => index64_op (by rfl) (by rfl) (by exact HQ.out.2.2.1) w⟩) (by assumption) ?_
      try simp only [Act.put, List.setIfInBounds_toArray, List.set_cons_zero, List.set_cons_succ]
      refine wpAnyH_take (i := 11) (oi := { dst := some 42, op := _, type := _, pos := _, after := _, guard := _ }) (v := ?_) rfl (by kernel_rfl) (by kernel_rfl) (by kernel_rfl) (fun _ _ _ h => h) (Or.inl ⟨by kernel_rfl, ?_⟩) (by assumption) ?_
      rotate_left
      · (intro w hSw; (try dsimp only at hSw); go_simp); all_goals (with_reducible rfl)
      try simp only [Act.put, List.setIfInBounds_toArray, List.set_cons_zero, List.set_cons_succ]
      refine wpAnyH_take (i := 12) (oi := { dst := some 43, op := _, type := _, pos := _, after := _, guard := _ }) (v := ?_) rfl (by kernel_rfl) (by kernel_rfl) (by kernel_rfl) (fun _ _ _ h => h) (Or.inl ⟨by kernel_rfl, ?_⟩) (by assumption) ?_
      rotate_left
      · (intro w hSw; (try dsimp only at hSw); go_simp); all_goals (with_reducible rfl)
      try simp only [Act.put, List.setIfInBounds_toArray, List.set_cons_zero, List.set_cons_succ]
      refine wpAnyH_take (i := 13) (oi := { dst := some 44, op := _, type := _, pos := _, after := _, guard := _ }) (v := .int .u8 ((sx r4).toNat : Int)) rfl (by kernel_rfl) (by kernel_rfl) (by kernel_rfl) (fun _ _ _ h => h) (Or.inl ⟨by kernel_rfl, fun w _ => index64_op (by rfl) (by rfl) (by exact HQ.out.2.2.2) w⟩) (by assumption) ?_
      try simp only [Act.put, List.setIfInBounds_toArray, List.set_cons_zero, List.set_cons_succ]
      refine wpAnyH_take (i := 14) (oi := { dst := some 45, op := _, type := _, pos := _, after := _, guard := _ }) (v := ?_) rfl (by kernel_rfl) (by kernel_rfl) (by kernel_rfl) (fun _ _ _ h => h) (Or.inl ⟨by kernel_rfl, ?_⟩) (by assumption) ?_
      rotate_left
      · (intro w hSw; (try dsimp only at hSw); go_simp); all_goals (with_reducible rfl)
      try simp only [Act.put, List.setIfInBounds_toArray, List.set_cons_zero, List.set_cons_succ]
      refine wpAnyH_ready (rs := [15]) (by kernel_rfl) (by simp) ?_
      refine (AllReadyH.cons (o := { dst := some 7, op := _, type := _, pos := _, after := _, guard := _ }) rfl (fun K hK => ?_) AllReadyH.nil)
      rw [if_pos (by kernel_rfl)]
      go_wp2_with fail
      refine hK.out _ _ trivial (fun _ => ?_)
      clear hK K
      try simp only [Act.put, List.setIfInBounds_toArray, List.set_cons_zero, List.set_cons_succ]
      refine wpAnyH_ready (rs := [16]) (by kernel_rfl) (by simp) ?_
      refine (AllReadyH.cons (o := { dst := none, op := _, type := _, pos := _, after := _, guard := _ }) rfl (fun K hK => ?_) AllReadyH.nil)
      rw [if_pos (by kernel_rfl)]
      refine wp_store_rowK 78 _ _ (by rfl) (wr.heap.size + 1) #[.int .u8 ((sx q1).toNat : Int), .int .u8 ((sx r2).toNat : Int), .int .u8 ((sx r3).toNat : Int), .int .u8 ((sx r4).toNat : Int)] (by first | rfl | (simp; rfl)) (by rfl) 78 #[.int .u8 0, .int .u8 0, .int .u8 0, .int .u8 0] (by exact heap_at1 _ _ _) (by kernel_rfl) (by kernel_rfl) (by kernel_rfl) (fun B : World => B.heap[wr.heap.size + 1]? = some (.cells #[.int .u8 ((sx q1).toNat : Int), .int .u8 ((sx r2).toNat : Int), .int .u8 ((sx r3).toNat : Int), .int .u8 ((sx r4).toNat : Int)] 78 (0, 0)) ∧ Below wr.heap.size wr B) ⟨setRow_heap _ _ _ _ _ _ (heap_at1 _ _ _), (((Below.refl _ wr).alloc (Nat.le_refl _) _).alloc (by simp) _).drew.trans ⟨rfl, rfl, rfl, by simp, fun k hk => setRow_other _ _ _ _ (by omega)⟩⟩ ?_
      rintro W4 ⟨h4, b4⟩
      refine hK.out _ _ trivial (fun _ => ?_)
      clear hK K
      try simp only [Act.put]
      refine wpAnyH_done (by kernel_rfl) ?_ _
      refine hK0 _ _ ?_

      have c40 : W4.cell? ⟨wr.heap.size + 1, 0, none⟩ = some (.int .u8 ((sx q1).toNat : Int)) := cell_of_heap h4
      have c41 : W4.cell? ⟨wr.heap.size + 1, 1, none⟩ = some (.int .u8 ((sx r2).toNat : Int)) := cell_of_heap h4
      have c42 : W4.cell? ⟨wr.heap.size + 1, 2, none⟩ = some (.int .u8 ((sx r3).toNat : Int)) := cell_of_heap h4
      have c43 : W4.cell? ⟨wr.heap.size + 1, 3, none⟩ = some (.int .u8 ((sx r4).toNat : Int)) := cell_of_heap h4
      have f4 := fun o => free_of_heap (x := o) h4
      have H4 := Lib.hid h4
      have B4 := Lib.hid b4
      clear h4 b4 hS0
      have H5 : Hid ((W4.setCell ⟨wr.heap.size + 1, 3, none⟩ (.int .u8 61)).heap[wr.heap.size + 1]? = some (.cells #[.int .u8 ((sx q1).toNat : Int), .int .u8 ((sx r2).toNat : Int), .int .u8 ((sx r3).toNat : Int), .int .u8 61] 78 (0, 0))) := by show _ = _; rw [heap_set H4.out]; simp
      have B5 : Hid (Below wr.heap.size wr (W4.setCell ⟨wr.heap.size + 1, 3, none⟩ (.int .u8 61))) := B4.out.setCell (by simp) _
      have O5 : Hid ((W4.setCell ⟨wr.heap.size + 1, 3, none⟩ (.int .u8 61)).ownsRow w.heap.size 5 1 (.slice av out.length cv) out.length (byteCells out)) := own_later HB.out.own B5.out
      have hel := enc64_len s
      have hol : out.length + 4 ≤ (enc64 s).length := by
        rw [HEQ.out, List.length_append, enc64_len]
        simp only [List.length_cons, List.length_nil]
        omega
      have hz5 : w.heap.size ≤ wr.heap.size := HB.out.below.size
      have hz6 := B5.out.size
      go_wp2_with fail
      refine wp_loop_rounds 2 ?_
      rw [rounds_succ]
      go_wp2_with fail
      rw [rounds_succ]
      go_wp2_with (at_builtin; refine wpList_append_own_wide _ rfl _ _ 75 rfl w.heap.size 5 i0 (.int .u8 0) 1 1 Tryd.underlying75 hi hz0 hz1 hz2 rfl (by decide) _ _ _ rfl O5.out ⟨wr.heap.size + 1, 0, none⟩ 4 4 (#[.int .u8 ((sx q1).toNat : Int), .int .u8 ((sx r2).toNat : Int), .int .u8 ((sx r3).toNat : Int), .int .u8 61] : Array Value).toList rfl rfl ?c1 ?c2 ?c3 ?c4 ?c5 ?_)
      case c1 =>
        intro j u hj
        exact (cell_of_heap H5.out).trans (by simpa using hj)
      case c2 => simp [Value.oneCell']
      case c3 => simp only [maxLen]; omega
      case c4 => omega
      case c5 => omega
      intro v' w7 hown' hgrow _
      have B7 : Below w.heap.size w w7 := (HB.out.below.trans (B5.out.mono hz5)).grown hgrow (Nat.le_trans hz5 B5.out.size) (fun k hk => (HB.out.own.lt k hk).1)
      go_wp2_with fail
      go_roundg (([] : List UInt8).length)
      case measure => simp at hg ⊢; omega
      case rel =>
        refine ⟨out ++ [sx q1, sx r2, sx r3, 61], ([] : List UInt8), v', Nat.le_refl _, rfl, rfl, ?_, ?_, B7⟩
        · rw [List.length_append]
          have e : byteCells (out ++ [sx q1, sx r2, sx r3, 61]) = byteCells out ++ (#[.int .u8 ((sx q1).toNat : Int), .int .u8 ((sx r2).toNat : Int), .int .u8 ((sx r3).toNat : Int), .int .u8 61] : Array Value).toList := by simp [byteCells]
          rw [e]
          exact hown'
        · rw [HEQ.out]
          simp only [enc64]
          rw [HN.out, HF.out]
          simp
    | x :: y :: z :: l, HB, hg =>
      have hcp : (Builtin.copy_ #[75, 9] 3 #[.slice (some ⟨wr.heap.size, 0, none⟩) 3 3, .string ⟨(x :: y :: z :: l).toArray⟩]).run Tryd.prog (wr.alloc (.cells #[.int .u8 0, .int .u8 0, .int .u8 0] 76)) =
          .ok (.int .i64 3) (wr.alloc (.cells #[.int .u8 (x.toNat : Int), .int .u8 (y.toNat : Int), .int .u8 (z.toNat : Int)] 76)) := by
        have := copy3 (P := Tryd.prog) (wr.alloc (.cells #[.int .u8 0, .int .u8 0, .int .u8 0] 76)) 75 9 3 5 wr.heap.size 3 (x :: y :: z :: l) _ 76 Tryd.underlying75 (by rw [hi]; simp [hz1]) (heap_alloc_new _ _) (by decide)
        rw [setRow_alloc _ _ _ _ _ rfl] at this
        exact this
      obtain ⟨N, hNe⟩ : ∃ N : Nat, x.toNat * 65536 + y.toNat * 256 + z.toNat = N := ⟨_, rfl⟩
      have hN64 : N < 16777216 := by have hx := x.toNat_lt; have hy := y.toNat_lt; have hz := z.toNat_lt; omega
      have hN : bits .or .i64 (bits .or .i64 (wrap64 (wrap64 (x.toNat : Int) * 65536)) (wrap64 (wrap64 (y.toNat : Int) * 256))) (wrap64 (z.toNat : Int)) = (N : Int) := by
        rw [← hNe]
        exact or3 x.toNat y.toNat z.toNat x.toNat_lt y.toNat_lt z.toNat_lt
      have hex : (⟨(x :: y :: z :: l).toArray⟩ : ByteArray).extract 3 (l.length + 1 + 1 + 1) = ⟨(l).toArray⟩ := by
        have h := extractL_tail (x :: y :: z :: l) 3
        exact h
      have HN := Lib.hid hNe
      have HEQ := Lib.hid HB.out.eq
      clear hNe
      go_upto_region 7 with fail
      clear hN hex hcp
      obtain ⟨q1, hq1⟩ : ∃ q : Nat, N / 262144 = q := ⟨_, rfl⟩
      obtain ⟨q2, hq2⟩ : ∃ q : Nat, N / 4096 = q := ⟨_, rfl⟩
      obtain ⟨q3, hq3⟩ : ∃ q : Nat, N / 64 = q := ⟨_, rfl⟩
      obtain ⟨r2, hr2⟩ : ∃ q : Nat, q2 % 64 = q := ⟨_, rfl⟩
      obtain ⟨r3, hr3⟩ : ∃ q : Nat, q3 % 64 = q := ⟨_, rfl⟩
      obtain ⟨r4, hr4⟩ : ∃ q : Nat, N % 64 = q := ⟨_, rfl⟩
      have f18 : (N : Int) / 262144 = (q1 : Int) := by omega
      have f12 : (N : Int) / 4096 = (q2 : Int) := by omega
      have f6 : (N : Int) / 64 = (q3 : Int) := by omega
      have a2 : bits .and .i64 (q2 : Int) 63 = (r2 : Int) := by rw [and63 _ (by omega), hr2]
      have a3 : bits .and .i64 (q3 : Int) 63 = (r3 : Int) := by rw [and63 _ (by omega), hr3]
      have a4 : bits .and .i64 (N : Int) 63 = (r4 : Int) := by rw [and63 _ (by omega), hr4]
      have HQ : Hid (q1 < 64 ∧ r2 < 64 ∧ r3 < 64 ∧ r4 < 64) := ⟨by omega, by omega, by omega, by omega⟩
      have HF : Hid (fourL N = [sx q1, sx r2, sx r3, sx r4]) := by show _ = _; unfold fourL; rw [hq1, hq2, hr2, hq3, hr3, hr4]
      clear hq1 hq2 hq3 hr2 hr3 hr4 hN64
      refine drawn_k (S := fun _ => True) (by kernel_rfl) trivial (fun hS0 K0 hK0 => ?_)
      refine wpAnyH_take (i := 0) (oi := { dst := some 31, op := _, type := _, pos := _, after := _, guard := _ }) (v := ?_) rfl (by kernel_rfl) (by kernel_rfl) (by kernel_rfl) (fun _ _ _ h => h) (Or.inl ⟨by kernel_rfl, ?_⟩) (by assumption) ?_
      rotate_left
      · (intro w hSw; (try dsimp only at hSw); go_simp); all_goals (with_reducible rfl)
      try simp only [Act.put, List.setIfInBounds_toArray, List.set_cons_zero, List.set_cons_succ]
      refine wpAnyH_take (i := 1) (oi := { dst := some 32, op := _, type := _, pos := _, after := _, guard := _ }) (v := ?_) rfl (by kernel_rfl) (by kernel_rfl) (by kernel_rfl) (fun _ _ _ h => h) (Or.inl ⟨by kernel_rfl, ?_⟩) (by assumption) ?_
      rotate_left
      · (intro w hSw; (try dsimp only at hSw); go_simp); all_goals (with_reducible rfl)
      try simp only [Act.put, List.setIfInBounds_toArray, List.set_cons_zero, List.set_cons_succ]
      refine wpAnyH_take (i := 2) (oi := { dst := some 33, op := _, type := _, pos := _, after := _, guard := _ }) (v := .int .u8 ((sx q1).toNat : Int)) rfl (by kernel_rfl) (by kernel_rfl) (by kernel_rfl) (fun _ _ _ h => h) (Or.inl ⟨by kernel_rfl, fun w _ => index64_op (by rfl) (by rfl) (by exact HQ.out.1) w⟩) (by assumption) ?_
      try simp only [Act.put, List.setIfInBounds_toArray, List.set_cons_zero, List.set_cons_succ]
      refine wpAnyH_take (i := 3) (oi := { dst := some 34, op := _, type := _, pos := _, after := _, guard := _ }) (v := ?_) rfl (by kernel_rfl) (by kernel_rfl) (by kernel_rfl) (fun _ _ _ h => h) (Or.inl ⟨by kernel_rfl, ?_⟩) (by assumption) ?_
      rotate_left
      · (intro w hSw; (try dsimp only at hSw); go_simp); all_goals (with_reducible rfl)
      try simp only [Act.put, List.setIfInBounds_toArray, List.set_cons_zero, List.set_cons_succ]
      refine wpAnyH_take (i := 4) (oi := { dst := some 35, op := _, type := _, pos := _, after := _, guard := _ }) (v := ?_) rfl (by kernel_rfl) (by kernel_rfl) (by kernel_rfl) (fun _ _ _ h => h) (Or.inl ⟨by kernel_rfl, ?_⟩) (by assumption) ?_
      rotate_left
      · (intro w hSw; (try dsimp only at hSw); go_simp); all_goals (with_reducible rfl)
      try simp only [Act.put, List.setIfInBounds_toArray, List.set_cons_zero, List.set_cons_succ]
      refine wpAnyH_take (i := 5) (oi := { dst := some 36, op := _, type := _, pos := _, after := _, guard := _ }) (v := ?_) rfl (by kernel_rfl) (by kernel_rfl) (by kernel_rfl) (fun _ _ _ h => h) (Or.inl ⟨by kernel_rfl, ?_⟩) (by assumption) ?_
      rotate_left
      · (intro w hSw; (try dsimp only at hSw); go_simp); all_goals (with_reducible rfl)
      try simp only [Act.put, List.setIfInBounds_toArray, List.set_cons_zero, List.set_cons_succ]
      refine wpAnyH_take (i := 6) (oi := { dst := some 37, op := _, type := _, pos := _, after := _, guard := _ }) (v := .int .u8 ((sx r2).toNat : Int)) rfl (by kernel_rfl) (by kernel_rfl) (by kernel_rfl) (fun _ _ _ h => h) (Or.inl ⟨by kernel_rfl, fun w _ => index64_op (by rfl) (by rfl) (by exact HQ.out.2.1) w⟩) (by assumption) ?_
      try simp only [Act.put, List.setIfInBounds_toArray, List.set_cons_zero, List.set_cons_succ]
      refine wpAnyH_take (i := 7) (oi := { dst := some 38, op := _, type := _, pos := _, after := _, guard := _ }) (v := ?_) rfl (by kernel_rfl) (by kernel_rfl) (by kernel_rfl) (fun _ _ _ h => h) (Or.inl ⟨by kernel_rfl, ?_⟩) (by assumption) ?_
      rotate_left
      · (intro w hSw; (try dsimp only at hSw); go_simp); all_goals (with_reducible rfl)
      try simp only [Act.put, List.setIfInBounds_toArray, List.set_cons_zero, List.set_cons_succ]
      refine wpAnyH_take (i := 8) (oi := { dst := some 39, op := _, type := _, pos := _, after := _, guard := _ }) (v := ?_) rfl (by kernel_rfl) (by kernel_rfl) (by kernel_rfl) (fun _ _ _ h => h) (Or.inl ⟨by kernel_rfl, ?_⟩) (by assumption) ?_
      rotate_left
      · (intro w hSw; (try dsimp only at hSw); go_simp); all_goals (with_reducible rfl)
      try simp only [Act.put, List.setIfInBounds_toArray, List.set_cons_zero, List.set_cons_succ]
      refine wpAnyH_take (i := 9) (oi := { dst := some 40, op := _, type := _, pos := _, after := _, guard := _ }) (v := ?_) rfl (by kernel_rfl) (by kernel_rfl) (by kernel_rfl) (fun _ _ _ h => h) (Or.inl ⟨by kernel_rfl, ?_⟩) (by assumption) ?_
      rotate_left
      · (intro w hSw; (try dsimp only at hSw); go_simp); all_goals (with_reducible rfl)
      try simp only [Act.put, List.setIfInBounds_toArray, List.set_cons_zero, List.set_cons_succ]
      refine wpAnyH_take (i := 10) (oi := { dst := some 41, op := _, type := _, pos := _, after := _, guard := _ }) (v := .int .u8 ((sx r3).toNat : Int)) rfl (by kernel_rfl) (by kernel_rfl) (by kernel_rfl) (fun _ _ _ h => h) (Or.inl ⟨by kernel_rfl, fun w _ => index64_op (by rfl) (by rfl) (by exact HQ.out.2.2.1) w⟩) (by assumption) ?_
      try simp only [Act.put, List.setIfInBounds_toArray, List.set_cons_zero, List.set_cons_succ]
      refine wpAnyH_take (i := 11) (oi := { dst := some 42, op := _, type := _, pos := _, after := _, guard := _ }) (v := ?_) rfl (by kernel_rfl) (by kernel_rfl) (by kernel_rfl) (fun _ _ _ h => h) (Or.inl ⟨by kernel_rfl, ?_⟩) (by assumption) ?_
      rotate_left
      · (intro w hSw; (try dsimp only at hSw); go_simp); all_goals (with_reducible rfl)
      try simp only [Act.put, List.setIfInBounds_toArray, List.set_cons_zero, List.set_cons_succ]
      refine wpAnyH_take (i := 12) (oi := { dst := some 43, op := _, type := _, pos := _, after := _, guard := _ }) (v := ?_) rfl (by kernel_rfl) (by kernel_rfl) (by kernel_rfl) (fun _ _ _ h => h) (Or.inl ⟨by kernel_rfl, ?_⟩) (by assumption) ?_
      rotate_left
      · (intro w hSw; (try dsimp only at hSw); go_simp); all_goals (with_reducible rfl)
      try simp only [Act.put, List.setIfInBounds_toArray, List.set_cons_zero, List.set_cons_succ]
      refine wpAnyH_take (i := 13) (oi := { dst := some 44, op := _, type := _, pos := _, after := _, guard := _ }) (v := .int .u8 ((sx r4).toNat : Int)) rfl (by kernel_rfl) (by kernel_rfl) (by kernel_rfl) (fun _ _ _ h => h) (Or.inl ⟨by kernel_rfl, fun w _ => index64_op (by rfl) (by rfl) (by exact HQ.out.2.2.2) w⟩) (by assumption) ?_
      try simp only [Act.put, List.setIfInBounds_toArray, List.set_cons_zero, List.set_cons_succ]
      refine wpAnyH_take (i := 14) (oi := { dst := some 45, op := _, type := _, pos := _, after := _, guard := _ }) (v := ?_) rfl (by kernel_rfl) (by kernel_rfl) (by kernel_rfl) (fun _ _ _ h => h) (Or.inl ⟨by kernel_rfl, ?_⟩) (by assumption) ?_
      rotate_left
      · (intro w hSw; (try dsimp only at hSw); go_simp); all_goals (with_reducible rfl)
      try simp only [Act.put, List.setIfInBounds_toArray, List.set_cons_zero, List.set_cons_succ]
      refine wpAnyH_ready (rs := [15]) (by kernel_rfl) (by simp) ?_
      refine (AllReadyH.cons (o := { dst := some 7, op := _, type := _, pos := _, after := _, guard := _ }) rfl (fun K hK => ?_) AllReadyH.nil)
      rw [if_pos (by kernel_rfl)]
      go_wp2_with fail
      refine hK.out _ _ trivial (fun _ => ?_)
      clear hK K
      try simp only [Act.put, List.setIfInBounds_toArray, List.set_cons_zero, List.set_cons_succ]
      refine wpAnyH_ready (rs := [16]) (by kernel_rfl) (by simp) ?_
      refine (AllReadyH.cons (o := { dst := none, op := _, type := _, pos := _, after := _, guard := _ }) rfl (fun K hK => ?_) AllReadyH.nil)
      rw [if_pos (by kernel_rfl)]
      refine wp_store_rowK 78 _ _ (by rfl) (wr.heap.size + 1) #[.int .u8 ((sx q1).toNat : Int), .int .u8 ((sx r2).toNat : Int), .int .u8 ((sx r3).toNat : Int), .int .u8 ((sx r4).toNat : Int)] (by first | rfl | (simp; rfl)) (by rfl) 78 #[.int .u8 0, .int .u8 0, .int .u8 0, .int .u8 0] (by exact heap_at1 _ _ _) (by kernel_rfl) (by kernel_rfl) (by kernel_rfl) (fun B : World => B.heap[wr.heap.size + 1]? = some (.cells #[.int .u8 ((sx q1).toNat : Int), .int .u8 ((sx r2).toNat : Int), .int .u8 ((sx r3).toNat : Int), .int .u8 ((sx r4).toNat : Int)] 78 (0, 0)) ∧ Below wr.heap.size wr B) ⟨setRow_heap _ _ _ _ _ _ (heap_at1 _ _ _), (((Below.refl _ wr).alloc (Nat.le_refl _) _).alloc (by simp) _).drew.trans ⟨rfl, rfl, rfl, by simp, fun k hk => setRow_other _ _ _ _ (by omega)⟩⟩ ?_
      rintro W4 ⟨h4, b4⟩
      refine hK.out _ _ trivial (fun _ => ?_)
      clear hK K
      try simp only [Act.put]
      refine wpAnyH_done (by kernel_rfl) ?_ _
      refine hK0 _ _ ?_

      have c40 : W4.cell? ⟨wr.heap.size + 1, 0, none⟩ = some (.int .u8 ((sx q1).toNat : Int)) := cell_of_heap h4
      have c41 : W4.cell? ⟨wr.heap.size + 1, 1, none⟩ = some (.int .u8 ((sx r2).toNat : Int)) := cell_of_heap h4
      have c42 : W4.cell? ⟨wr.heap.size + 1, 2, none⟩ = some (.int .u8 ((sx r3).toNat : Int)) := cell_of_heap h4
      have c43 : W4.cell? ⟨wr.heap.size + 1, 3, none⟩ = some (.int .u8 ((sx r4).toNat : Int)) := cell_of_heap h4
      have f4 := fun o => free_of_heap (x := o) h4
      have H4 := Lib.hid h4
      have B4 := Lib.hid b4
      clear h4 b4 hS0
      have H5 : Hid (W4.heap[wr.heap.size + 1]? = some (.cells #[.int .u8 ((sx q1).toNat : Int), .int .u8 ((sx r2).toNat : Int), .int .u8 ((sx r3).toNat : Int), .int .u8 ((sx r4).toNat : Int)] 78 (0, 0))) := H4.out
      have B5 : Hid (Below wr.heap.size wr W4) := B4.out
      have O5 : Hid (W4.ownsRow w.heap.size 5 1 (.slice av out.length cv) out.length (byteCells out)) := own_later HB.out.own B5.out
      have hel := enc64_len s
      have hol : out.length + 4 ≤ (enc64 s).length := by
        rw [HEQ.out, List.length_append, enc64_len]
        simp only [List.length_cons, List.length_nil]
        omega
      have hz5 : w.heap.size ≤ wr.heap.size := HB.out.below.size
      have hz6 := B5.out.size
      go_wp2_with fail
      refine wp_loop_rounds 1 ?_
      rw [rounds_succ]
      go_wp2_with (at_builtin; refine wpList_append_own_wide _ rfl _ _ 75 rfl w.heap.size 5 i0 (.int .u8 0) 1 1 Tryd.underlying75 hi hz0 hz1 hz2 rfl (by decide) _ _ _ rfl O5.out ⟨wr.heap.size + 1, 0, none⟩ 4 4 (#[.int .u8 ((sx q1).toNat : Int), .int .u8 ((sx r2).toNat : Int), .int .u8 ((sx r3).toNat : Int), .int .u8 ((sx r4).toNat : Int)] : Array Value).toList rfl rfl ?c1 ?c2 ?c3 ?c4 ?c5 ?_)
      case c1 =>
        intro j u hj
        exact (cell_of_heap H5.out).trans (by simpa using hj)
      case c2 => simp [Value.oneCell']
      case c3 => simp only [maxLen]; omega
      case c4 => omega
      case c5 => omega
      intro v' w7 hown' hgrow _
      have B7 : Below w.heap.size w w7 := (HB.out.below.trans (B5.out.mono hz5)).grown hgrow (Nat.le_trans hz5 B5.out.size) (fun k hk => (HB.out.own.lt k hk).1)
      go_wp2_with fail
      go_roundg (l.length)
      case measure => simp at hg ⊢; omega
      case rel =>
        refine ⟨out ++ [sx q1, sx r2, sx r3, sx r4], l, v', Nat.le_refl _, rfl, rfl, ?_, ?_, B7⟩
        · rw [List.length_append]
          have e : byteCells (out ++ [sx q1, sx r2, sx r3, sx r4]) = byteCells out ++ (#[.int .u8 ((sx q1).toNat : Int), .int .u8 ((sx r2).toNat : Int), .int .u8 ((sx r3).toNat : Int), .int .u8 ((sx r4).toNat : Int)] : Array Value).toList := by simp [byteCells]
          rw [e]
          exact hown'
        · rw [HEQ.out]
          simp only [enc64]
          rw [HN.out, HF.out]
          simp
end Go.Proofs.YtgklbmcnpnmkkaaDoor
