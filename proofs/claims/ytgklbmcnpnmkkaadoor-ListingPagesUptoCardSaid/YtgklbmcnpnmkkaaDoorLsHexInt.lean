/-
  strconv.ParseInt at base 16, bit size 64, at every text; meta.ReadNumber: the walks.
-/
import Derived.Test.YtgklbmcnpnmkkaaDoorLsHexRd
import Derived.Test.YtgklbmcnpnmkkaaDoorLsIterP
import Derived.Lib.IfaceNeq
namespace Go.Proofs.YtgklbmcnpnmkkaaDoor
open Go.RowKit

theorem extractL_drop (l : List UInt8) (m : Nat) : (⟨l.toArray⟩ : ByteArray).extract m l.length = ⟨(l.drop m).toArray⟩ := by
  have h : ((⟨l.toArray⟩ : ByteArray).extract m l.length).data.toList = l.drop m := by simp [List.take_of_length_le]
  rw [← h]

set_option maxHeartbeats 1000000 in
set_option maxRecDepth 100000 in
theorem parseUint16_nil (w : World) :
    Calls Tryd.prog 84 #[.string ⟨#[]⟩, .int .i64 16, .int .i64 64] w fun e w' => e = .returned (.tuple #[.int .u64 0, .iface 118 (.int .i64 2)]) ∧ w' = w := by
  go_enter Tryd.func84, Tryd.ntmps84
  go_wp2
  go_ret2
  exact ⟨rfl, rfl⟩

/-- how ParseUint ends, in short -/
def PuAny (e : Ending) : Prop := (∃ v : Int, 0 ≤ v ∧ v < 18446744073709551616 ∧ e = .returned (.tuple #[.int .u64 v, .nilIface])) ∨
  e = .returned (.tuple #[.int .u64 0, .iface 118 (.int .i64 2)]) ∨ e = .returned (.tuple #[.int .u64 18446744073709551615, .iface 118 (.int .i64 1)])
theorem parseUint16_any (bs : List UInt8) (hmax : bs.length ≤ 9223372036854775806) (w : World) :
    Calls Tryd.prog 84 #[.string ⟨bs.toArray⟩, .int .i64 16, .int .i64 64] w fun e w' => PuAny e ∧ Below w.heap.size w w' := by
  cases bs with
  | nil =>
    refine (parseUint16_nil w).mono ?_
    rintro e w' ⟨rfl, rfl⟩
    exact ⟨.inr (.inl rfl), Below.refl _ _⟩
  | cons c r =>
    refine (parseUint16 (c :: r) (by simp) hmax w).mono ?_
    rintro e w' ⟨h, hb⟩
    refine ⟨?_, hb⟩
    unfold PuOut at h
    split at h
    · rename_i v hv
      have := pu16_bd _ _ _ (by omega) (by omega) hv
      exact .inl ⟨v, this.1, this.2, h⟩
    · exact .inr h

/-- how ParseInt ends -/
def PiAny (bs : List UInt8) (w : World) (e : Ending) (w' : World) : Prop :=
  ((∃ v : Int, IntOK v ∧ bs ≠ [] ∧ e = .returned (.tuple #[.int .i64 v, .nilIface])) ∨ (∃ v k : Int, IntOK v ∧ (k = 1 ∨ k = 2) ∧ e = .returned (.tuple #[.int .i64 v, .iface 118 (.int .i64 k)]))) ∧ Below w.heap.size w w'

theorem intOK_wrap (x : Int) : IntOK (wrap64 x) := by unfold IntOK wrap64; omega
theorem strHead (c : UInt8) (r : List UInt8) : (⟨(c :: r).toArray⟩ : ByteArray)[0]'(by simp [ByteArray.size]) = c := by simp [ByteArray.getElem_eq_getElem_data]
theorem strTail (c : UInt8) (r : List UInt8) : (⟨(c :: r).toArray⟩ : ByteArray).extract 1 (r.length + 1) = ⟨r.toArray⟩ := by
  have := extractL_drop (c :: r) 1
  simpa using this

set_option maxHeartbeats 4000000 in
set_option maxRecDepth 100000 in
theorem parseInt16_plain (c : UInt8) (r : List UInt8) (h43 : c ≠ 43) (h45 : c ≠ 45) (hmax : r.length ≤ 9223372036854775805) (w : World) :
    Calls Tryd.prog 67 #[.string ⟨(c :: r).toArray⟩, .int .i64 16, .int .i64 64] w (PiAny (c :: r) w) := by
  have hq2 : ∀ W, (binOp .neq 81 (.iface 118 (.int .i64 2)) (.iface 118 (.int .i64 1))).run Tryd.prog W = .ok (.bool true) W := fun W => Lib.run_neq_iface_int W 2 1 Tryd.underlying81 (by kernel_rfl) Tryd.underlying118
  have hq1 : ∀ W, (binOp .neq 81 (.iface 118 (.int .i64 1)) (.iface 118 (.int .i64 1))).run Tryd.prog W = .ok (.bool false) W := fun W => Lib.run_neq_iface_int W 1 1 Tryd.underlying81 (by kernel_rfl) Tryd.underlying118
  have h1 : ((c.toNat : Int) == 43) = false := by
    rw [beq_eq_false_iff_ne]; intro e
    exact h43 (UInt8.toNat_inj.1 (by have : (43 : UInt8).toNat = 43 := rfl; omega))
  have h2 : ((c.toNat : Int) == 45) = false := by
    rw [beq_eq_false_iff_ne]; intro e
    exact h45 (UInt8.toNat_inj.1 (by have : (45 : UInt8).toNat = 45 := rfl; omega))
  have hh := strHead c r
  clear h43 h45
  have HU := Lib.hid (fun W => parseUint16_any (c :: r) (by simp only [List.length_cons]; omega) W)
  go_enter Tryd.func67, Tryd.ntmps67
  go_wp2_with fail
  refine (HU.out _).mono ?_
  rintro e w1 ⟨he, hb1⟩
  have B1 := Lib.hid hb1
  clear hb1
  rcases he with ⟨v, hv0, hv1, rfl⟩ | rfl | rfl
  · by_cases hc : 9223372036854775808 ≤ v
    · go_wp2
      go_ret2
      exact ⟨.inr ⟨_, 1, (by first | exact intOK_wrap _ | (unfold IntOK; omega)), .inl rfl, rfl⟩, B1.out⟩
    · have hc' : v < 9223372036854775808 := by omega
      clear hc
      go_wp2
      go_ret2
      exact ⟨.inl ⟨_, (by first | exact intOK_wrap _ | (unfold IntOK; omega)), (by simp), rfl⟩, B1.out⟩
  · go_wp2
    go_ret2
    exact ⟨.inr ⟨_, 2, (by first | exact intOK_wrap _ | (unfold IntOK; omega)), .inr rfl, rfl⟩, B1.out⟩
  · go_wp2
    go_ret2
    exact ⟨.inr ⟨_, 1, (by first | exact intOK_wrap _ | (unfold IntOK; omega)), .inl rfl, rfl⟩, B1.out⟩

set_option maxHeartbeats 4000000 in
set_option maxRecDepth 100000 in
theorem parseInt16_plus (r : List UInt8) (hmax : r.length ≤ 9223372036854775805) (w : World) :
    Calls Tryd.prog 67 #[.string ⟨(43 :: r).toArray⟩, .int .i64 16, .int .i64 64] w (PiAny (43 :: r) w) := by
  have hq2 : ∀ W, (binOp .neq 81 (.iface 118 (.int .i64 2)) (.iface 118 (.int .i64 1))).run Tryd.prog W = .ok (.bool true) W := fun W => Lib.run_neq_iface_int W 2 1 Tryd.underlying81 (by kernel_rfl) Tryd.underlying118
  have hq1 : ∀ W, (binOp .neq 81 (.iface 118 (.int .i64 1)) (.iface 118 (.int .i64 1))).run Tryd.prog W = .ok (.bool false) W := fun W => Lib.run_neq_iface_int W 1 1 Tryd.underlying81 (by kernel_rfl) Tryd.underlying118
  have hh := strHead 43 r
  have htl := strTail 43 r
  have HU := Lib.hid (fun W => parseUint16_any r (by omega) W)
  go_enter Tryd.func67, Tryd.ntmps67
  go_wp2_with fail
  refine (HU.out _).mono ?_
  rintro e w1 ⟨he, hb1⟩
  have B1 := Lib.hid hb1
  clear hb1
  rcases he with ⟨v, hv0, hv1, rfl⟩ | rfl | rfl
  · by_cases hc : 9223372036854775808 ≤ v
    · go_wp2
      go_ret2
      exact ⟨.inr ⟨_, 1, (by first | exact intOK_wrap _ | (unfold IntOK; omega)), .inl rfl, rfl⟩, B1.out⟩
    · have hc' : v < 9223372036854775808 := by omega
      clear hc
      go_wp2
      go_ret2
      exact ⟨.inl ⟨_, (by first | exact intOK_wrap _ | (unfold IntOK; omega)), (by simp), rfl⟩, B1.out⟩
  · go_wp2
    go_ret2
    exact ⟨.inr ⟨_, 2, (by first | exact intOK_wrap _ | (unfold IntOK; omega)), .inr rfl, rfl⟩, B1.out⟩
  · go_wp2
    go_ret2
    exact ⟨.inr ⟨_, 1, (by first | exact intOK_wrap _ | (unfold IntOK; omega)), .inl rfl, rfl⟩, B1.out⟩

set_option maxHeartbeats 4000000 in
set_option maxRecDepth 100000 in
theorem parseInt16_minus (r : List UInt8) (hmax : r.length ≤ 9223372036854775805) (w : World) :
    Calls Tryd.prog 67 #[.string ⟨(45 :: r).toArray⟩, .int .i64 16, .int .i64 64] w (PiAny (45 :: r) w) := by
  have hq2 : ∀ W, (binOp .neq 81 (.iface 118 (.int .i64 2)) (.iface 118 (.int .i64 1))).run Tryd.prog W = .ok (.bool true) W := fun W => Lib.run_neq_iface_int W 2 1 Tryd.underlying81 (by kernel_rfl) Tryd.underlying118
  have hq1 : ∀ W, (binOp .neq 81 (.iface 118 (.int .i64 1)) (.iface 118 (.int .i64 1))).run Tryd.prog W = .ok (.bool false) W := fun W => Lib.run_neq_iface_int W 1 1 Tryd.underlying81 (by kernel_rfl) Tryd.underlying118
  have hh := strHead 45 r
  have htl := strTail 45 r
  have HU := Lib.hid (fun W => parseUint16_any r (by omega) W)
  go_enter Tryd.func67, Tryd.ntmps67
  go_wp2_with fail
  refine (HU.out _).mono ?_
  rintro e w1 ⟨he, hb1⟩
  have B1 := Lib.hid hb1
  clear hb1
  rcases he with ⟨v, hv0, hv1, rfl⟩ | rfl | rfl
  · by_cases hc : 9223372036854775808 < v
    · go_wp2
      go_ret2
      exact ⟨.inr ⟨_, 1, (by first | exact intOK_wrap _ | (unfold IntOK; omega)), .inl rfl, rfl⟩, B1.out⟩
    · have hc' : v ≤ 9223372036854775808 := by omega
      clear hc
      go_wp2
      go_ret2
      exact ⟨.inl ⟨_, (by first | exact intOK_wrap _ | (unfold IntOK; omega)), (by simp), rfl⟩, B1.out⟩
  · go_wp2
    go_ret2
    exact ⟨.inr ⟨_, 2, (by first | exact intOK_wrap _ | (unfold IntOK; omega)), .inr rfl, rfl⟩, B1.out⟩
  · go_wp2
    go_ret2
    exact ⟨.inr ⟨_, 1, (by first | exact intOK_wrap _ | (unfold IntOK; omega)), .inl rfl, rfl⟩, B1.out⟩

set_option maxHeartbeats 1000000 in
set_option maxRecDepth 100000 in
theorem parseInt16_nil (w : World) : Calls Tryd.prog 67 #[.string ⟨#[]⟩, .int .i64 16, .int .i64 64] w (PiAny [] w) := by
  go_enter Tryd.func67, Tryd.ntmps67
  go_wp2
  go_ret2
  exact ⟨.inr ⟨_, 2, (by unfold IntOK; omega), .inr rfl, rfl⟩, Below.refl _ _⟩

theorem parseInt16_any (bs : List UInt8) (hmax : bs.length ≤ 9223372036854775805) (w : World) : Calls Tryd.prog 67 #[.string ⟨bs.toArray⟩, .int .i64 16, .int .i64 64] w (PiAny bs w) := by
  cases bs with
  | nil => exact parseInt16_nil w
  | cons c r =>
    simp only [List.length_cons] at hmax
    by_cases h1 : c = 43
    · subst h1; exact parseInt16_plus r (by omega) w
    · by_cases h2 : c = 45
      · subst h2; exact parseInt16_minus r (by omega) w
      · exact parseInt16_plain c r h1 h2 (by omega) w

set_option maxHeartbeats 4000000 in
set_option maxRecDepth 100000 in
/-- .. at sixteenths -/
theorem parseInt16_good (c : UInt8) (r : List UInt8) (v : Int) (h43 : c ≠ 43) (h45 : c ≠ 45) (hv : pu16 0 (c :: r) = some v) (hv1 : v < 9223372036854775808) (hmax : r.length ≤ 9223372036854775805) (w : World) :
    Calls Tryd.prog 67 #[.string ⟨(c :: r).toArray⟩, .int .i64 16, .int .i64 64] w fun e w' => e = .returned (.tuple #[.int .i64 v, .nilIface]) ∧ Below w.heap.size w w' := by
  have h1 : ((c.toNat : Int) == 43) = false := by
    rw [beq_eq_false_iff_ne]; intro e
    exact h43 (UInt8.toNat_inj.1 (by have : (43 : UInt8).toNat = 43 := rfl; omega))
  have h2 : ((c.toNat : Int) == 45) = false := by
    rw [beq_eq_false_iff_ne]; intro e
    exact h45 (UInt8.toNat_inj.1 (by have : (45 : UInt8).toNat = 45 := rfl; omega))
  have hh := strHead c r
  have hv0 := (pu16_bd _ _ _ (by omega) (by omega) hv).1
  have HU := Lib.hid (fun W => parseUint16 (c :: r) (by simp) (by simp only [List.length_cons]; omega) W)
  rw [hv] at HU
  clear h43 h45 hv
  go_enter Tryd.func67, Tryd.ntmps67
  go_wp2_with fail
  refine (HU.out _).mono ?_
  rintro e w1 ⟨he, hb1⟩
  have B1 := Lib.hid hb1
  have he' : e = .returned (.tuple #[.int .u64 v, .nilIface]) := he
  subst he'
  clear hb1 he
  go_wp2
  go_ret2
  exact ⟨rfl, B1.out⟩

set_option maxHeartbeats 2000000 in
set_option maxRecDepth 100000 in
theorem sParseInt16_good (c : UInt8) (r : List UInt8) (v : Int) (h43 : c ≠ 43) (h45 : c ≠ 45) (hv : pu16 0 (c :: r) = some v) (hv1 : v < 9223372036854775808) (hmax : r.length ≤ 9223372036854775805) (w : World) :
    Calls Tryd.prog 50 #[.string ⟨(c :: r).toArray⟩, .int .i64 16, .int .i64 64] w fun e w' => e = .returned (.tuple #[.int .i64 v, .nilIface]) ∧ Below w.heap.size w w' := by
  have HU := Lib.hid (fun W => parseInt16_good c r v h43 h45 hv hv1 hmax W)
  clear hv h43 h45 hv1
  go_enter Tryd.func50, Tryd.ntmps50
  go_wp2_with fail
  refine (HU.out _).mono ?_
  rintro e w1 ⟨rfl, hb1⟩
  have B1 := Lib.hid hb1
  clear hb1
  go_wp2
  go_ret2
  exact ⟨rfl, B1.out⟩

/-- how strconv.ParseInt ends -/
def SpAny (bs : List UInt8) (w : World) (e : Ending) (w' : World) : Prop :=
  ((∃ v : Int, IntOK v ∧ bs ≠ [] ∧ e = .returned (.tuple #[.int .i64 v, .nilIface])) ∨ (∃ (v : Int) (N : Nat), e = .returned (.tuple #[.int .i64 v, .iface 121 (.pointer (some ⟨N, 0, none⟩))]))) ∧ Below w.heap.size w w'

set_option maxHeartbeats 2000000 in
set_option maxRecDepth 100000 in
theorem sParseInt16_any (bs : List UInt8) (hmax : bs.length ≤ 140737488355328) (w : World) (hg : Glob w) : Calls Tryd.prog 50 #[.string ⟨bs.toArray⟩, .int .i64 16, .int .i64 64] w (SpAny bs w) := by
  have HU := Lib.hid (fun W => parseInt16_any bs (by omega) W)
  have HG := Lib.hid hg
  have hsz : (⟨bs.toArray⟩ : ByteArray).size = bs.length := by simp [ByteArray.size]
  have HSZ := Lib.hid hsz
  clear hg hsz
  go_enter Tryd.func50, Tryd.ntmps50
  go_wp2_with fail
  refine (HU.out _).mono ?_
  rintro e w1 ⟨he, hb1⟩
  have B1 := Lib.hid hb1
  have G1 := Lib.hid (HG.out.later hb1)
  clear hb1
  rcases he with ⟨v, hv, hne, rfl⟩ | ⟨v, k, hv, hk, rfl⟩
  · have HV := Lib.hid hv
    have HNE := Lib.hid hne
    clear hv hne
    go_wp2
    go_ret2
    exact ⟨.inl ⟨_, HV.out, HNE.out, rfl⟩, B1.out⟩
  · clear hv
    rcases hk with rfl | rfl
    · obtain ⟨te, pe, hv⟩ := G1.out.eran
      go_wp2_with fail
      refine (Tryd.strconv_toError_range _ ⟨bs.toArray⟩ _ _ _ _ (by rw [HSZ.out]; omega) hv (.inr ⟨te, pe, rfl⟩)).mono ?_
      rintro e w2 ⟨N, rfl, _, _, hb⟩
      have B2 := Lib.hid (B1.out.trans (hb.mono B1.out.size))
      clear hb hv
      go_wp2
      go_ret2
      exact ⟨.inr ⟨_, N, rfl⟩, B2.out⟩
    · obtain ⟨te, pe, hv⟩ := G1.out.esyn
      go_wp2_with fail
      refine (Tryd.strconv_toError_syntax _ ⟨bs.toArray⟩ _ _ _ _ (by rw [HSZ.out]; omega) hv (.inr ⟨te, pe, rfl⟩)).mono ?_
      rintro e w2 ⟨N, rfl, _, _, hb⟩
      have B2 := Lib.hid (B1.out.trans (hb.mono B1.out.size))
      clear hb hv
      go_wp2
      go_ret2
      exact ⟨.inr ⟨_, N, rfl⟩, B2.out⟩

end Go.Proofs.YtgklbmcnpnmkkaaDoor
