/-
  SEVERAL SMALL TEXTS IN ONE.
-/
import Derived.Test.YtdilmefeofdkmaaGreatDoorWiEnc
import Derived.Test.YtdilmefeofdkmaaGreatDoorSm22
import Derived.Test.YtdilmefeofdkmaaGreatDoorWxNum
import Derived.Handy
import Derived.Lib.ItoaLen
import Derived.StillTailTactics
import Derived.Deep.LoopGhost
import Derived.Test.YtdilmefeofdkmaaGreatDoorSm19
import Derived.Test.YtdilmefeofdkmaaGreatDoorWxFeed
/-
  WIRE: the document's Digits, Value, Field. (Printed by wip/gen/wxenc1.py; Digits out of RxNum.)
-/
namespace Go.Proofs.YtdilmefeofdkmaaGreatDoor
open Go.RowKit Go.PlainAid

theorem digit_text (d : Nat) (h : d < 10) : (ByteArray.mk #[48, 49, 50, 51, 52, 53, 54, 55, 56, 57]).extract d (d + 1) = ⟨#[UInt8.ofNat (48 + d)]⟩ := by
  match d, h with
  | 0, _ | 1, _ | 2, _ | 3, _ | 4, _ | 5, _ | 6, _ | 7, _ | 8, _ | 9, _ => decide +kernel

def DigOut (n : Nat) (w : World) (e : Ending) (w' : World) : Prop := e = .returned (.string ⟨(Lib.decDigits n).toArray⟩) ∧ ∃ m, w' = w.drewN m

set_option maxHeartbeats 1000000 in
theorem digits_small (n : Nat) (w : World) (h : n < 10) : Calls Tryz.prog 44 #[.int .i64 n] w (DigOut n w) := by
  have e : Lib.decDigits n = [UInt8.ofNat (48 + n)] := by rw [Lib.decDigits, dif_pos h]
  have hd := Lib.hid (digit_text n h)
  unfold DigOut
  rw [e]
  clear e
  go_enter Tryz.func44, Tryz.ntmps44
  go_wp2
  go_ret
  exact ⟨by rw [← hd.out]; rfl, 0, rfl⟩

set_option maxHeartbeats 1000000 in
theorem digits_step (n : Nat) (w : World) (h : 10 ≤ n) (hn : n ≤ 9223372036854775807)
    (ih : ∀ W, Calls Tryz.prog 44 #[.int .i64 (n / 10 : Nat)] W fun e w' => e = .returned (.string ⟨(Lib.decDigits (n / 10)).toArray⟩) ∧ ∃ m, w' = W.drewN m) :
    Calls Tryz.prog 44 #[.int .i64 n] w (DigOut n w) := by
  have IH := Lib.hid ih
  have hd := Lib.hid (digit_text (n % 10) (by omega))
  have e : Hid ((⟨(Lib.decDigits n).toArray⟩ : ByteArray) = ⟨(Lib.decDigits (n / 10)).toArray⟩ ++ ⟨#[UInt8.ofNat (48 + n % 10)]⟩) := by
    show _ = _
    rw [Lib.decDigits, dif_neg (by omega)]
    apply ByteArray.ext
    apply Array.ext'
    simp
  have f1 : (n : Int).tdiv 10 = ((n / 10 : Nat) : Int) := by rw [Int.tdiv_eq_ediv_of_nonneg (by omega)]; omega
  have f2 : (n : Int).tmod 10 = ((n % 10 : Nat) : Int) := by rw [Int.tmod_eq_emod_of_nonneg (by omega)]; omega
  have f3 : IntKind.i64.wrap (((n % 10 : Nat) : Int) + 1) = ((n % 10 : Nat) : Int) + 1 := by go_arith
  have f4 : IntKind.i64.wrap ((n / 10 : Nat) : Int) = ((n / 10 : Nat) : Int) := by go_arith
  have f5 : IntKind.i64.wrap ((n % 10 : Nat) : Int) = ((n % 10 : Nat) : Int) := by go_arith
  obtain ⟨q, hq⟩ : ∃ q : Nat, q = n / 10 := ⟨_, rfl⟩
  obtain ⟨r, hr⟩ : ∃ r : Nat, r = n % 10 := ⟨_, rfl⟩
  have hr10 : r < 10 := by omega
  obtain ⟨X, hX⟩ : ∃ X : ByteArray, (⟨(Lib.decDigits (n / 10)).toArray⟩ : ByteArray) = X := ⟨_, rfl⟩
  obtain ⟨Y, hY⟩ : ∃ Y : ByteArray, (⟨(Lib.decDigits n).toArray⟩ : ByteArray) = Y := ⟨_, rfl⟩
  have hXs : X.size ≤ 1000 := by
    rw [← hX]
    have := Lib.itoa_length_le ((n / 10 : Nat) : Int) (by omega) (by omega)
    rw [Lib.itoa_nonneg] at this
    show (Lib.decDigits (n / 10)).toArray.size ≤ 1000
    simp; omega
  unfold DigOut
  rw [hY]
  rw [hX] at IH e
  rw [hY] at e
  rw [← hq] at IH f1 f4
  rw [← hr] at hd e f2 f3 f5
  have g1 : (0 : Int) ≤ (r : Int) + 1 := by omega
  have g2 : ((r : Int) + 1).toNat = r + 1 := by omega
  have g3 : (ByteArray.mk #[48, 49, 50, 51, 52, 53, 54, 55, 56, 57]).size = 10 := rfl
  have g4 : ¬ 9223372036854775807 < X.size + (min (r + 1) 10 - r) := by omega
  clear hn hX hY hq hr
  clear ih
  go_enter Tryz.func44, Tryz.ntmps44
  go_wp2
  go_quiet ((go_at_call 44; exact Calls.quiet_of (IH.out _)))
  go_wp2
  go_ret
  rw [e.out, ← hd.out]
  exact ⟨rfl, _, rfl⟩

theorem digits_any : ∀ (n : Nat) (w : World), n ≤ 9223372036854775807 → Calls Tryz.prog 44 #[.int .i64 n] w (DigOut n w) := by
  intro n
  induction n using Nat.strongRecOn with
  | _ n ih =>
    intro w hn
    by_cases h : n < 10
    · exact digits_small n w h
    · exact digits_step n w (by omega) hn (fun W => ih (n / 10) (by omega) W (by omega))

theorem dw_self (p : UInt8 → Bool) : ∀ x : List UInt8, x.dropWhile p = x ↔ ∀ b, x.head? = some b → p b = false
  | [] => by simp
  | b :: x => by
    constructor
    · intro h c hc
      simp at hc
      subst hc
      cases hp : p b
      · rfl
      · exfalso
        rw [List.dropWhile_cons, if_pos hp] at h
        have h1 := congrArg List.length h
        have h2 : (x.dropWhile p).length ≤ x.length := by
          exact (List.dropWhile_suffix p).length_le
        simp only [List.length_cons] at h1
        omega
    · intro h
      have := h b rfl
      rw [List.dropWhile_cons, this]
      simp
def endsOk (l : List UInt8) : Bool := l.head? != some 32 && l.getLast? != some 32
theorem trim_self (l : List UInt8) : (Lib.trimB l 32 == l) = endsOk l := by
  unfold Lib.trimB Lib.trimLeftB Lib.trimRightB endsOk
  rw [Bool.eq_iff_iff]
  simp only [beq_iff_eq, Bool.and_eq_true, bne_iff_ne, ne_eq]
  have hr : (l.reverse.dropWhile (· == 32)).reverse = l ↔ l.getLast? ≠ some 32 := by
    have h1 := dw_self (· == 32) l.reverse
    rw [List.head?_reverse] at h1
    constructor
    · intro h
      have h2 : l.reverse.dropWhile (· == 32) = l.reverse := by
        have := congrArg List.reverse h
        rwa [List.reverse_reverse] at this
      intro h3
      have := h1.1 h2 32 h3
      simp at this
    · intro h
      rw [h1.2 (fun b hb => by
        simp only [beq_eq_false_iff_ne]
        intro e
        rw [e] at hb
        exact h hb), List.reverse_reverse]
  have hl := dw_self (· == 32) l
  constructor
  · intro h
    have n1 := (List.dropWhile_suffix (l := (l.reverse.dropWhile (· == 32)).reverse) (· == 32)).length_le
    have n2 := (List.dropWhile_suffix (l := l.reverse) (· == 32)).length_le
    rw [h] at n1
    simp only [List.length_reverse] at n1 n2
    have e1 : l.reverse.dropWhile (· == 32) = l.reverse := by
      have hs := List.dropWhile_suffix (l := l.reverse) (· == 32)
      exact hs.eq_of_length (by simp only [List.length_reverse]; omega)
    have e2 : (l.reverse.dropWhile (· == 32)).reverse = l := by rw [e1, List.reverse_reverse]
    rw [e2] at h
    refine ⟨?_, hr.1 e2⟩
    intro hh
    have := hl.1 h 32 hh
    simp at this
  · rintro ⟨h1, h2⟩
    rw [hr.2 h2]
    exact hl.2 fun b hb => by
      simp only [beq_eq_false_iff_ne]
      intro e
      rw [e] at hb
      exact h1 hb

def valB (l : List UInt8) : Bool := l.all (fun b => !hiddenB b) && endsOk l
theorem valB_eq (l : List UInt8) : (l.any hiddenB || Lib.trimB l 32 != l) = !valB l := by
  unfold valB
  rw [bne, trim_self]
  have : l.any hiddenB = !(l.all fun b => !hiddenB b) := by rw [List.any_eq_not_all_not]
  rw [this]
  cases (l.all fun b => !hiddenB b) <;> cases endsOk l <;> rfl

set_option maxHeartbeats 4000000 in
set_option maxRecDepth 100000 in
theorem rValue_any (s : ByteArray) (w : World) (hs : s.size ≤ 140737488355327) :
    Calls Tryz.prog 46 #[.string s] w fun e w' => e = .returned (.bool (valB s.data.toList)) ∧ w' = w := by
  have hl : s.data.toList.length = s.size := by rw [Array.length_toList]; rfl
  have HLL := Lib.hid hl
  have HD := Lib.hid (fun i (h : i < s.size) => bt_at h)
  have hb := get_bt s
  clear hl
  go_enter Tryz.func46, Tryz.ntmps46
  go_wp2
  go_loopg [3] s.size (fun gg s3 wr => ∃ i : Nat, i ≤ s.size ∧ s.size - i ≤ gg ∧ s3 = .int .i64 i ∧ wr = w ∧ Hid ((s.data.toList.take i).all (fun b => !hiddenB b) = true))
  case atStart => exact ⟨0, Nat.zero_le _, by omega, rfl, rfl, (by show _ = _; rfl)⟩
  case round =>
    obtain ⟨i, hin, hg, rfl, rfl, HA⟩ := hrel
    by_cases hlt : i < s.size
    · have hltz : (i : Int) < (s.size : Int) := by omega
      obtain ⟨x, hx1, hx2, hx3, hx4⟩ := HD.out i hlt
      have hx256 := x.toNat_lt
      have HH := Lib.hid (hiddenB_int x)
      have HB : Hid (hiddenB x = true → valB s.data.toList = false) := fun h => by
        unfold valB
        rw [Bool.and_eq_false_iff]
        left
        rw [Bool.eq_false_iff]
        intro hall
        have := List.all_eq_true.1 hall x (by
          have : x ∈ s.data.toList.drop i := by rw [hx2]; simp
          exact List.mem_of_mem_drop this)
        rw [h] at this
        cases this
      have HN : Hid (hiddenB x = false → Hid ((s.data.toList.take (i + 1)).all (fun b => !hiddenB b) = true)) := fun h => by
        show _ = _
        rw [hx3, List.all_append, HA.out]; simp [h]
      obtain ⟨n, hn⟩ : ∃ n : Int, bt s i = n := ⟨_, rfl⟩
      rw [show (x.toNat : Int) = n from by omega] at HH
      have hb2 : ∀ h : i < s.size, ((s[i]'h).toNat : Int) = n := fun h => by rw [hb, hn]
      clear hx1 hx2 hx3 hx4
      by_cases c1 : n < 32
      · have hv := HB.out (by rw [HH.out, decide_eq_true c1]; rfl)
        have HV := Lib.hid hv
        clear hv
        go_wp2_with fail
        go_ret
        rw [HV.out]
        exact ⟨rfl, rfl⟩
      · have c2 : 32 ≤ n := by omega
        by_cases c3 : n = 127
        · have hv := HB.out (by rw [HH.out, c3]; rfl)
          have HV := Lib.hid hv
          clear hv c1
          subst c3
          go_wp2_with fail
          go_ret
          rw [HV.out]
          exact ⟨rfl, rfl⟩
        · have c4 : (n == 127) = false := by rw [beq_eq_false_iff_ne]; exact c3
          have HNX := HN.out (by rw [HH.out, decide_eq_false c1, c4]; rfl)
          clear c1
          go_wp2_with fail
          go_roundg (s.size - (i + 1))
          case measure => omega
          case rel => exact ⟨i + 1, by omega, by omega, by go_num, rfl, HNX⟩
    · have he : i = s.size := by omega
      subst he
      have h1 := HA.out
      rw [List.take_of_length_le (by rw [HLL.out]; exact Nat.le_refl _)] at h1
      have HV : Hid (valB s.data.toList = endsOk s.data.toList) := by show _ = _; unfold valB; rw [h1, Bool.true_and]
      by_cases h0 : s.size = 0
      · have hnil : s = ⟨#[]⟩ := by
          obtain ⟨⟨l⟩⟩ := s
          simp only [ByteArray.size] at h0
          simp at h0
          rw [h0]
        subst hnil
        clear hb HD HLL
        go_wp2_with fail
        go_ret
        rw [HV.out]
        exact ⟨rfl, rfl⟩
      · have hte : s.toList.isEmpty = false := by
          rw [ByteArray.toList_eq]
          cases hd : s.data.toList with
          | nil =>
            exfalso
            apply h0
            rw [← HLL.out, hd]; rfl
          | cons a r => rfl
        obtain ⟨x, hx1, hx2, hx3, hx4⟩ := HD.out 0 (by omega)
        obtain ⟨y, hy1, hy2, hy3, hy4⟩ := HD.out (s.size - 1) (by omega)
        have hx256 := x.toNat_lt
        have hy256 := y.toNat_lt
        have HE : Hid (endsOk s.data.toList = (!((x.toNat : Int) == 32) && !((y.toNat : Int) == 32))) := by
          show _ = _
          unfold endsOk
          rw [List.head?_eq_getElem?, hx1, List.getLast?_eq_getElem?, HLL.out, hy1]
          have e1 : (some x != some (32 : UInt8)) = !((x.toNat : Int) == 32) := by
            rw [bne, show (some x == some (32 : UInt8)) = (x == 32) from rfl, u8_eq]; rfl
          have e2 : (some y != some (32 : UInt8)) = !((y.toNat : Int) == 32) := by
            rw [bne, show (some y == some (32 : UInt8)) = (y == 32) from rfl, u8_eq]; rfl
          rw [e1, e2]
        obtain ⟨n, hn⟩ : ∃ n : Int, bt s 0 = n := ⟨_, rfl⟩
        obtain ⟨m, hm⟩ : ∃ m : Int, bt s (s.size - 1) = m := ⟨_, rfl⟩
        rw [show (x.toNat : Int) = n from by omega, show (y.toNat : Int) = m from by omega] at HE
        have hb2 : ∀ h : 0 < s.size, ((s[0]'h).toNat : Int) = n := fun h => by rw [hb, hn]
        obtain ⟨k, hk⟩ : ∃ k, s.size = k + 1 := ⟨s.size - 1, by omega⟩
        have hb3 : ∀ h : k < s.size, ((s[k]'h).toNat : Int) = m := fun h => by rw [hb, ← hm, hk]; rfl
        have HBK : Hid (bt s k = m) := by show _ = _; rw [← hm, hk]; rfl
        have hkz : (s.size : Int) = (k : Int) + 1 := by omega
        have hk0 : 0 < s.size := by omega
        have hk1 : k < s.size := by omega
        clear hx1 hx2 hx3 hx4 hy1 hy2 hy3 hy4 h1 h0
        obtain ⟨a1, ha1⟩ : ∃ x, (n == 32) = x := ⟨_, rfl⟩
        obtain ⟨a2, ha2⟩ : ∃ x, (m == 32) = x := ⟨_, rfl⟩
        have hb1 : (n != 32) = !a1 := by rw [bne, ha1]
        have hb4 : (m != 32) = !a2 := by rw [bne, ha2]
        rw [ha1, ha2] at HE
        cases a1 <;> cases a2
        all_goals
          go_wp2_with fail
          go_ret
          rw [HV.out, HE.out]
          refine ⟨?_, rfl⟩
          first | rfl | (show Ending.returned (.bool (bt s k != 32)) = _; rw [HBK.out, hb4]; rfl)

theorem fieldV_take (name : List UInt8) (fs : List (List UInt8 × List UInt8)) {i : Nat} {f : List UInt8 × List UInt8} (h : fs[i]? = some f) : (fs.take (i + 1)).filter (fun f => smallL f.1 == smallL name) = (fs.take i).filter (fun f => smallL f.1 == smallL name) ++ (if smallL f.1 == smallL name then [f] else []) := by
  rw [List.take_add_one, h, List.filter_append]
  congr 1
  cases hx : (smallL f.1 == smallL name) <;> simp [hx]

set_option maxHeartbeats 4000000 in
set_option maxRecDepth 100000 in
theorem rField_any {fs : List (List UInt8 × List UInt8)} {v : Value} {w : World} (h : PairsAt w v fs) (hfs : ∀ f ∈ fs, f.1.length ≤ 140737488351232) (name : List UInt8) (hn : name.length ≤ 140737488351232) :
    Calls Tryz.prog 25 #[v, .string ⟨name.toArray⟩] w fun e w' => e = .returned (.tuple #[.string ⟨((fieldV fs name).getD []).toArray⟩, .bool (fieldV fs name).isSome]) ∧ Below w.heap.size w w' := by
  obtain ⟨a, c, rfl, _, hfn, hc⟩ := h
  have HC := Lib.hid hc
  have HN := Lib.hid (rSmall_any name hn w)
  have HSM := Lib.hid (fun f (hf : f ∈ fs) W => rSmall_any f.1 (hfs f hf) W)
  have HFT := Lib.hid (fun i f (hi : fs[i]? = some f) => fieldV_take name fs hi)
  clear hc hfs
  go_enter Tryz.func25, Tryz.ntmps25
  go_wp2_with fail
  refine HN.out.mono ?_
  rintro e w1 ⟨rfl, hb1⟩
  have B1 := Lib.hid hb1
  clear hb1 HN
  go_wp2
  go_loopg [6, 7, 9, 10] fs.length (fun gg s6 s7 s9 _ wr => ∃ (i : Nat) (x : List UInt8), i ≤ fs.length ∧ fs.length - i ≤ gg ∧ s9 = .int .i64 i ∧ s6 = .int .i64 ((fs.take i).filter (fun f => smallL f.1 == smallL name)).length ∧ s7 = .string ⟨x.toArray⟩ ∧ Hid (Below w.heap.size w wr) ∧ Hid (∀ f r, (fs.take i).filter (fun f => smallL f.1 == smallL name) = r ++ [f] → x = f.2) ∧ ((fs.take i).filter (fun f => smallL f.1 == smallL name)).length ≤ i)
  case atStart => exact ⟨0, [], Nat.zero_le _, by omega, rfl, rfl, rfl, B1, (fun f r h => by simp at h), Nat.le_refl _⟩
  case round =>
    obtain ⟨i, x, hin, hg, rfl, rfl, rfl, BR, HX, hfl⟩ := hrel
    by_cases hlt : i < fs.length
    · have hltz : (i : Int) < (fs.length : Int) := by omega
      obtain ⟨f, hif⟩ : ∃ f, fs[i]? = some f := ⟨_, List.getElem?_eq_getElem hlt⟩
      obtain ⟨b, off, rfl, k0, k1⟩ := HC.out i f hif
      have HS1 := Lib.hid (HSM.out f (List.mem_of_getElem? hif) wr)
      have hft := HFT.out i f hif
      have e0 := cell_later BR.out k0
      have K1 := Lib.hid k1
      obtain ⟨nm, vl⟩ := f
      simp only at e0 K1 HS1 hft
      generalize (fs.take i).filter (fun f => smallL f.1 == smallL name) = F at *
      clear k0 k1 hif
      go_wp2_with fail
      refine HS1.out.mono ?_
      rintro e w4 ⟨rfl, hb4⟩
      have e1 := cell_later (BR.out.trans (hb4.mono BR.out.size)) K1.out
      have B4 := Lib.hid (BR.out.trans (hb4.mono BR.out.size))
      clear hb4 e0
      by_cases hs : smallL nm = smallL name
      · have hsb : (smallL nm == smallL name) = true := by rw [beq_iff_eq]; exact hs
        rw [hsb, if_pos rfl] at hft
        have HFT2 := Lib.hid hft
        have HS := Lib.hid hs
        clear hft
        rw [hs]
        clear hs hsb
        go_wp2
        go_roundg (fs.length - (i + 1))
        case measure => omega
        case rel => exact ⟨i + 1, vl, by omega, by omega, by go_num, (by rw [HFT2.out, List.length_append]; first | rfl | go_num), rfl, B4, (fun f r h => by rw [HFT2.out] at h; have := (List.append_inj' h rfl).2; simp at this; rw [← this]), (by rw [HFT2.out]; simp; omega)⟩
      · have hsb : (smallL nm == smallL name) = false := by rw [beq_eq_false_iff_ne]; exact hs
        rw [hsb, if_neg (by simp), List.append_nil] at hft
        have HFT2 := Lib.hid hft
        clear hft
        generalize smallL nm = sm1 at *
        generalize hsm2 : smallL name = sm2 at *
        clear hsm2
        go_wp2
        go_roundg (fs.length - (i + 1))
        case measure => omega
        case rel => exact ⟨i + 1, x, by omega, by omega, by go_num, by rw [HFT2.out], rfl, B4, by rw [HFT2.out]; exact HX, by rw [HFT2.out]; omega⟩
    · have he : i = fs.length := by omega
      subst he
      rw [List.take_length] at HX hfl ⊢
      have HV : Hid (fieldV fs name = match fs.filter (fun f => smallL f.1 == smallL name) with | [f] => some f.2 | _ => none) := rfl
      rcases hF : fs.filter (fun f => smallL f.1 == smallL name) with _ | ⟨f, _ | ⟨g, r⟩⟩
      · rw [hF] at HV ⊢
        have HV2 : Hid (fieldV fs name = none) := HV.out
        go_wp2
        go_ret2
        rw [HV2.out]
        exact ⟨rfl, BR.out⟩
      · rw [hF] at HV HX ⊢
        have HV2 : Hid (fieldV fs name = some x) := by rw [show x = f.2 from HX.out f [] rfl]; exact HV.out
        go_wp2
        go_ret2
        rw [HV2.out]
        exact ⟨rfl, BR.out⟩
      · rw [hF] at HV hfl ⊢
        have HV2 : Hid (fieldV fs name = none) := HV.out
        have hn1 : ((((f :: g :: r).length : Nat) : Int) == 1) = false := by rw [beq_eq_false_iff_ne]; simp only [List.length_cons]; omega
        have hn2 : ((((f :: g :: r).length : Nat) : Int) != 1) = true := by rw [bne, hn1]; rfl
        generalize (f :: g :: r).length = nl at *
        go_wp2
        go_ret2
        rw [HV2.out]
        exact ⟨rfl, BR.out⟩

end Go.Proofs.YtdilmefeofdkmaaGreatDoor

/-
  WIRE: what the document's Ask stands on: a copy of a request whose fields grow.
-/
namespace Go.Proofs.YtdilmefeofdkmaaGreatDoor
open Go.RowKit

/-- the cells of a request -/
def reqCells (me ta : List UInt8) (mi : Int) (bd : List UInt8) (cl : Bool) (v : Value) : Array Value := #[.string ⟨me.toArray⟩, .string ⟨ta.toArray⟩, .int .i64 mi, v, .string ⟨bd.toArray⟩, .bool cl]
/-- a copy of a request in a block B of its own, its fields in a list of its own -/
structure CopyAt (w1 wr : World) (B : Nat) (me ta : List UInt8) (mi : Int) (bd : List UInt8) (cl : Bool) (v : Value) (fs : List (List UInt8 × List UInt8)) : Prop where
  box : wr.heap[B]? = some (.cells (reqCells me ta mi bd cl v) 31 (0, 0))
  own : wr.ownsRow (B + 1) 58 2 v fs.length (pairCells fs)
  bel : Below w1.heap.size w1 wr
  far : w1.heap.size ≤ B
section
variable {w1 wr w2 w' : World} {B : Nat} {me ta : List UInt8} {mi : Int} {bd : List UInt8} {cl : Bool} {v : Value} {fs : List (List UInt8 × List UInt8)}
theorem CopyAt.lt (h : CopyAt w1 wr B me ta mi bd cl v fs) : B < wr.heap.size := (Array.getElem?_eq_some_iff.1 h.box).1
theorem CopyAt.later (h : CopyAt w1 wr B me ta mi bd cl v fs) (hb : Below wr.heap.size wr w') : CopyAt w1 w' B me ta mi bd cl v fs :=
  ⟨(hb.block B h.lt).trans h.box, rowB_later h.own hb, h.bel.trans (hb.mono h.bel.size), h.far⟩
theorem CopyAt.form (h : CopyAt w1 wr B me ta mi bd cl v fs) : ∃ a c, v = .slice a fs.length c := rowB_form h.own
theorem CopyAt.pairs (h : CopyAt w1 wr B me ta mi bd cl v fs) (hl : fs.length ≤ 140737488351232) : PairsAt wr v fs := pairs_own (own0 h.own) hl
/-- the list grew: the box is as it was -/
theorem CopyAt.grown (h : CopyAt w1 wr B me ta mi bd cl v fs) (hg : wr.grownBy w2 v.ownBlock) : w2.heap[B]? = some (.cells (reqCells me ta mi bd cl v) 31 (0, 0)) ∧ Below w1.heap.size w1 w2 := by
  have hc := Chg.grown hg
  refine ⟨(hc.block B h.lt fun hk => ?_).trans h.box, h.bel.trans (hc.below h.bel.size fun k hk => ?_)⟩
  · have := (h.own.lt B hk.symm).1
    omega
  · have := (h.own.lt k hk.symm).1
    have := h.far
    omega
/-- a field was appended and the list laid into the box -/
theorem CopyAt.push {gn cap : Nat} {f : List UInt8 × List UInt8} (h : CopyAt w1 wr B me ta mi bd cl v fs)
    (hown : w2.ownsRow (B + 1) 58 2 (.slice (some ⟨gn, 0, none⟩) (fs.length + 1) cap) (fs.length + 1) (pairCells fs ++ [.string ⟨f.1.toArray⟩, .string ⟨f.2.toArray⟩])) (hg : wr.grownBy w2 v.ownBlock) :
    CopyAt w1 (w2.setCell ⟨B, 3, none⟩ (.slice (some ⟨gn, 0, none⟩) (fs.length + 1) cap)) B me ta mi bd cl (.slice (some ⟨gn, 0, none⟩) (fs.length + 1) cap) (fs ++ [f]) := by
  obtain ⟨k1, k2⟩ := h.grown hg
  refine ⟨?_, ?_, k2.trans ((Chg.set w2 ⟨B, 3, none⟩ _).below k2.size fun b hb => by rw [show b = B from hb]; exact h.far), h.far⟩
  · rw [heap_set k1]; rfl
  · rw [pairCells_snoc, List.length_append]
    refine ⟨hown.1, ?_⟩
    rcases hown.2 with h1 | ⟨g, cp, cur, hv, hgb, hh, r⟩
    · exact .inl h1
    · exact .inr ⟨g, cp, cur, hv, hgb, (Below.heap_setCell _ _ _ _ (by simp only; omega)).trans hh, r⟩
end
def addA (close : Bool) (minor : Int) : List (List UInt8 × List UInt8) := if close then (if minor = 1 then [(connL, closeL)] else []) else []
def addB (close : Bool) (minor : Int) : List (List UInt8 × List UInt8) := if close then [] else (if minor = 0 then [(connL, aliveL)] else [])
theorem addAB (close : Bool) (minor : Int) : addA close minor ++ addB close minor = addConn close minor := by
  unfold addA addB addConn
  cases close <;> simp
end Go.Proofs.YtdilmefeofdkmaaGreatDoor
