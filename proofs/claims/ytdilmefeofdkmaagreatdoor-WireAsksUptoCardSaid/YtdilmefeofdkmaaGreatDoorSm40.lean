/-
  SEVERAL SMALL TEXTS IN ONE.
-/
import Derived.Test.YtdilmefeofdkmaaGreatDoorWiChunkP
import Derived.Test.YtdilmefeofdkmaaGreatDoorSm33
import Derived.Test.YtdilmefeofdkmaaGreatDoorWiAsk
import Derived.Test.YtdilmefeofdkmaaGreatDoorSm37
/-
  WIRE: sixteenths of the statements' package.
-/
namespace Go.Proofs.YtdilmefeofdkmaaGreatDoor
open Go.RowKit Go.PlainAid

def sixT (up : Bool) : ByteArray := if up then ⟨#[48, 49, 50, 51, 52, 53, 54, 55, 56, 57, 65, 66, 67, 68, 69, 70]⟩ else ⟨#[48, 49, 50, 51, 52, 53, 54, 55, 56, 57, 97, 98, 99, 100, 101, 102]⟩
theorem six_text (up : Bool) (d : Nat) (h : d < 16) : (sixT up).extract d (d + 1) = ⟨#[sixD up d]⟩ := by
  have : ∀ (u : Bool) (k : Fin 16), (sixT u).extract k.val (k.val + 1) = ⟨#[sixD u k.val]⟩ := by decide +kernel
  exact this up ⟨d, h⟩
def SixOut (up : Bool) (n : Nat) (w : World) (e : Ending) (w' : World) : Prop := e = .returned (.string ⟨(sixL up n).toArray⟩) ∧ ∃ m, w' = w.drewN m

set_option maxHeartbeats 1000000 in
theorem sixteenths_small (up : Bool) (n : Nat) (w : World) (h : n < 16) : Calls Tryz.prog 31 #[.int .i64 n, .bool up] w (SixOut up n w) := by
  have e : sixL up n = [sixD up n] := by rw [sixL, dif_pos h]
  have hd := Lib.hid (six_text up n h)
  unfold SixOut
  rw [e]
  clear e
  cases up
  · go_enter Tryz.func31, Tryz.ntmps31
    go_wp2
    go_ret
    exact ⟨by rw [← hd.out]; rfl, 0, rfl⟩
  · go_enter Tryz.func31, Tryz.ntmps31
    go_wp2
    go_ret
    exact ⟨by rw [← hd.out]; rfl, 0, rfl⟩

set_option maxHeartbeats 2000000 in
theorem sixteenths_step (up : Bool) (n : Nat) (w : World) (h : 16 ≤ n) (hn : n ≤ 60000)
    (ih : ∀ W, Calls Tryz.prog 31 #[.int .i64 (n / 16 : Nat), .bool up] W (SixOut up (n / 16) W)) :
    Calls Tryz.prog 31 #[.int .i64 n, .bool up] w (SixOut up n w) := by
  have IH : Hid (∀ W, Calls Tryz.prog 31 #[.int .i64 (n / 16 : Nat), .bool up] W fun e w' => e = .returned (.string ⟨(sixL up (n / 16)).toArray⟩) ∧ ∃ m, w' = W.drewN m) := ih
  have hd := Lib.hid (six_text up (n % 16) (by omega))
  have e : Hid ((⟨(sixL up n).toArray⟩ : ByteArray) = ⟨(sixL up (n / 16)).toArray⟩ ++ ⟨#[sixD up (n % 16)]⟩) := by
    show _ = _
    rw [sixL, dif_neg (by omega)]
    apply ByteArray.ext
    apply Array.ext'
    simp
  have f1 : (n : Int).tdiv 16 = ((n / 16 : Nat) : Int) := by rw [Int.tdiv_eq_ediv_of_nonneg (by omega)]; omega
  have f2 : (n : Int).tmod 16 = ((n % 16 : Nat) : Int) := by rw [Int.tmod_eq_emod_of_nonneg (by omega)]; omega
  have f3 : IntKind.i64.wrap (((n % 16 : Nat) : Int) + 1) = ((n % 16 : Nat) : Int) + 1 := by go_arith
  have f4 : IntKind.i64.wrap ((n / 16 : Nat) : Int) = ((n / 16 : Nat) : Int) := by go_arith
  have f5 : IntKind.i64.wrap ((n % 16 : Nat) : Int) = ((n % 16 : Nat) : Int) := by go_arith
  obtain ⟨q, hq⟩ : ∃ q : Nat, q = n / 16 := ⟨_, rfl⟩
  obtain ⟨r, hr⟩ : ∃ r : Nat, r = n % 16 := ⟨_, rfl⟩
  have hr10 : r < 16 := by omega
  obtain ⟨X, hX⟩ : ∃ X : ByteArray, (⟨(sixL up (n / 16)).toArray⟩ : ByteArray) = X := ⟨_, rfl⟩
  obtain ⟨Y, hY⟩ : ∃ Y : ByteArray, (⟨(sixL up n).toArray⟩ : ByteArray) = Y := ⟨_, rfl⟩
  have hXs : X.size ≤ 1000 := by
    rw [← hX]
    have := six_len up 3 (n / 16) (by omega)
    show (sixL up (n / 16)).toArray.size ≤ 1000
    simp; omega
  unfold SixOut
  rw [hY]
  rw [hX] at IH e
  rw [hY] at e
  rw [← hq] at IH f1 f4
  rw [← hr] at hd e f2 f3 f5
  have g1 : (0 : Int) ≤ (r : Int) + 1 := by omega
  have g2 : ((r : Int) + 1).toNat = r + 1 := by omega
  have g4 : ¬ 9223372036854775807 < X.size + (min (r + 1) 16 - r) := by omega
  clear hn hX hY hq hr ih
  cases up
  · have g3 : (ByteArray.mk #[48, 49, 50, 51, 52, 53, 54, 55, 56, 57, 97, 98, 99, 100, 101, 102]).size = 16 := rfl
    go_enter Tryz.func31, Tryz.ntmps31
    go_wp2
    go_quiet ((go_at_call 31; exact Calls.quiet_of (IH.out _)))
    go_wp2
    go_ret
    rw [e.out, ← hd.out]
    exact ⟨rfl, _, rfl⟩
  · have g3 : (ByteArray.mk #[48, 49, 50, 51, 52, 53, 54, 55, 56, 57, 65, 66, 67, 68, 69, 70]).size = 16 := rfl
    go_enter Tryz.func31, Tryz.ntmps31
    go_wp2
    go_quiet ((go_at_call 31; exact Calls.quiet_of (IH.out _)))
    go_wp2
    go_ret
    rw [e.out, ← hd.out]
    exact ⟨rfl, _, rfl⟩

theorem sixteenths_any (up : Bool) : ∀ (n : Nat) (w : World), n ≤ 60000 → Calls Tryz.prog 31 #[.int .i64 n, .bool up] w (SixOut up n w) := by
  intro n
  induction n using Nat.strongRecOn with
  | _ n ih =>
    intro w hn
    by_cases h : n < 16
    · exact sixteenths_small up n w h
    · exact sixteenths_step up n w (by omega) hn (fun W => ih (n / 16) (by omega) W (by omega))
end Go.Proofs.YtdilmefeofdkmaaGreatDoor

/-
  The law WireChunks: the walk.
-/
namespace Go.Proofs.YtdilmefeofdkmaaGreatDoor
open Go.RowKit

/-- whole numbers in a slice -/
def IntsAt (w : World) (v : Value) (zs : List Int) : Prop := ∃ a c, v = .slice a zs.length c ∧ zs.length ≤ 140737488351232 ∧ ∀ i z, zs[i]? = some z → ∃ b off, a = some ⟨b, off, none⟩ ∧ w.cell? ⟨b, off + i, none⟩ = some (.int .i64 z)

set_option maxHeartbeats 16000000 in
set_option maxRecDepth 100000 in
theorem chunks_walk (body : List UInt8) (v : Value) (zs : List Int) (up : Bool) (w : World) (hG : Glob w) (hS : IntsAt w v zs) (hl : body.length ≤ 140737488351232) :
    Calls Tryz.prog 8 #[.string ⟨body.toArray⟩, v, .bool up] w fun e w' => e = .returned (.bool true) ∧ Below w.heap.size w w' := by
  have HG : Hid (∀ W, Below w.heap.size w W → Glob W) := fun W hW => hG.later hW
  obtain ⟨a, c, rfl, hzl, hc⟩ := hS
  have HC := Lib.hid hc
  have HX := Lib.hid (ex_walk w hG)
  clear hG hc
  go_enter Tryz.func8, Tryz.ntmps8
  go_wp2_with fail
  refine HX.out.mono ?_
  rintro e w1 ⟨rfl, b1⟩
  have B1 := Lib.hid b1
  clear b1 HX
  obtain ⟨BD, hBD⟩ : ∃ x, body.take 8000 = x := ⟨_, rfl⟩
  have HBD := Lib.hid hBD
  have hbl : BD.length ≤ 8000 := by rw [← hBD, List.length_take]; omega
  clear hBD
  go_upto_if 23 with (fail)
  go_cut [0] (fun s0 wx => s0 = .string ⟨BD.toArray⟩ ∧ wx = w1)
  case first =>
    by_cases h8 : 8000 < body.length
    · have hz : (8000 : Int) < (body.length : Int) := by omega
      have hz2 : ((8000 : Int)) ≤ (body.length : Int) := by omega
      have hx : (⟨body.toArray⟩ : ByteArray).extract 0 8000 = ⟨BD.toArray⟩ := by
        rw [extract_take, HBD.out]
      go_wp2_with fail
      go_meet
      exact ⟨by first | rfl | rw [← hx], rfl⟩
    · have hz : ¬ (8000 : Int) < (body.length : Int) := by omega
      have hz2 : (body.length : Int) ≤ 8000 := by omega
      have hx : body = BD := by rw [← HBD.out, List.take_of_length_le (by omega)]
      go_wp2_with fail
      go_meet
      exact ⟨by first | rfl | rw [hx], rfl⟩
  case rest =>
  obtain ⟨hs0, rfl⟩ := hcut
  subst hs0
  obtain ⟨w1, rfl⟩ : ∃ wx : World, wx = wc := ⟨_, rfl⟩
  have BA : Hid (Below w1.heap.size w1 (w1.alloc (.cells #[.string ⟨hostL.toArray⟩, .string ⟨#[104]⟩] 58))) := below_alloc (Below.refl _ _) (Nat.le_refl _) _
  have HASK : Hid (Calls Tryz.prog 30 #[reqAgg (putR BD) (.slice (some ⟨w1.heap.size, 0, none⟩) 1 1)] (w1.alloc (.cells #[.string ⟨hostL.toArray⟩, .string ⟨#[104]⟩] 58)) fun e w' => e = .returned (.tuple #[.string ⟨(askT (putR BD)).toArray⟩, .int .i64 0]) ∧ Below (w1.alloc (.cells #[.string ⟨hostL.toArray⟩, .string ⟨#[104]⟩] 58)).heap.size (w1.alloc (.cells #[.string ⟨hostL.toArray⟩, .string ⟨#[104]⟩] 58)) w') := by
    have h1 := ask_any (putR BD) (.slice (some ⟨w1.heap.size, 0, none⟩) 1 1) (w1.alloc (.cells #[.string ⟨hostL.toArray⟩, .string ⟨#[104]⟩] 58)) (HG.out _ (B1.out.trans (BA.out.mono B1.out.size))) ⟨_, 1, rfl, Nat.le_refl _, by show 1 ≤ 140737488351232; decide, fun i f hf => by
      rcases i with _ | i
      · have e : f = hostF := by simpa [putR] using hf.symm
        subst e
        exact ⟨w1.heap.size, 0, rfl, cell_new _ _ _ _ _ _ rfl rfl, cell_new _ _ _ _ _ _ rfl rfl⟩
      · simp [putR] at hf⟩ (by have := putT_len BD hbl; omega) (show IntOK 1 from ⟨by decide, by decide⟩)
    unfold AskOut at h1
    rw [put_ok BD hbl] at h1
    exact h1
  go_wp2_with fail
  refine HASK.out.mono ?_
  rintro e w2 ⟨rfl, b2⟩
  have B2 := Lib.hid (B1.out.trans ((BA.out.trans (b2.mono BA.out.size)).mono B1.out.size))
  have HAT := Lib.hid (put_fed BD hbl)
  have HATL := Lib.hid (putT_len BD hbl)
  generalize askT (putR BD) = AT at *
  clear b2 HASK BA B1
  go_wp2
  go_loopg [10, 11, 12, 13] BD.length (fun gg s10 s11 s12 _ wr => ∃ (S pre rest : List UInt8) (i : Nat), s10 = .string ⟨S.toArray⟩ ∧ s11 = .string ⟨rest.toArray⟩ ∧ s12 = .int .i64 i ∧ pre ++ rest = BD ∧ Hid (Chunked S pre) ∧ S.length ≤ 100 + 20 * pre.length ∧ i ≤ pre.length ∧ rest.length ≤ gg ∧ Hid (Below w2.heap.size w2 wr))
  case atStart => exact ⟨chunkHead, [], BD, 0, rfl, rfl, rfl, rfl, chunkHead_fed, by decide, Nat.le_refl _, Nat.le_refl _, Below.refl _ _⟩
  case round =>
    obtain ⟨S, pre, rest, i, rfl, rfl, rfl, hpr, CH, hsl, hip, hrg, BR⟩ := hrel
    have hpl : pre.length + rest.length = BD.length := by rw [← hpr, List.length_append]
    have HPR := Lib.hid hpr
    clear hpr
    by_cases hr0 : rest = []
    · subst hr0
      have hpb : pre = BD := by have := HPR.out; rwa [List.append_nil] at this
      subst hpb
      have HFD := CH.out.last hbl
      obtain ⟨w3, rfl⟩ : ∃ wx : World, wx = wr := ⟨_, rfl⟩
      have B3 := Lib.hid (B2.out.trans (BR.out.mono B2.out.size))
      have HALL : Hid (∀ W (t : List UInt8), Below w.heap.size w W → t.length ≤ 1000000 → Calls Tryz.prog 11 #[.slice (some ⟨W.heap.size, 0, none⟩) 1 1] (W.alloc (.cells #[.string ⟨t.toArray⟩] 9)) fun e w' => ∃ v K, e = .returned (.tuple #[v, .int .i64 (rsZ.feed t).1.fault, .int .i64 (rsZ.feed t).1.held]) ∧ ReqsAt w' v (rsZ.feed t).2 K ∧ Below W.heap.size W w') := fun W t hW ht => by
        have hb := below_alloc (Below.refl W.heap.size W) (Nat.le_refl _) (.cells #[.string ⟨t.toArray⟩] 9)
        refine (all_law [t] (.slice (some ⟨W.heap.size, 0, none⟩) 1 1) (W.alloc (.cells #[.string ⟨t.toArray⟩] 9)) (HG.out _ (hW.trans (hb.mono hW.size))) ⟨some ⟨W.heap.size, 0, none⟩, 1, rfl, by simp [strRows], fun i r hr => ?_⟩ (by simp; omega) (by simp)).mono ?_
        · rcases i with _ | i
          · simp [strRows] at hr
            subst hr
            refine ⟨W.heap.size, 0, rfl, fun j u hu => ?_⟩
            rcases j with _ | j
            · simp at hu
              subst hu
              exact cell_new _ _ _ _ _ _ rfl rfl
            · simp at hu
          · simp [strRows] at hr
        · rintro e w' ⟨v, K, h1, h2, _, h4⟩
          have e1 : [t].flatten = t := by simp
          rw [e1] at h1 h2
          exact ⟨v, K, h1, h2, hb.trans (h4.mono hb.size)⟩
      have HFS := Lib.hid HFD
      have HS1 := HALL.out w3 AT B3.out (by have := HATL.out; omega)
      rw [HAT.out] at HS1
      have HL1 := Lib.hid HS1
      obtain ⟨S2, hS2⟩ : ∃ x, S ++ lastT = x := ⟨_, rfl⟩
      have hs2l : S2.length ≤ 1000000 := by
        rw [← hS2]
        simp only [List.length_append, lastT, List.length_cons, List.length_nil]
        omega
      have HSS : Hid ((⟨S.toArray⟩ : ByteArray) ++ ⟨#[48, 59, 120, 61, 121, 13, 10, 13, 10]⟩ = ⟨S2.toArray⟩) := by show _ = _; rw [← hS2]; apply ByteArray.ext; simp [lastT]
      rw [hS2] at HFS
      have HS2L := Lib.hid hs2l
      have s1 : ¬ 9223372036854775807 < S.length + 9 := by omega
      clear HFD HS1 hS2 hs2l CH HPR hpl HAT HATL HBD
      go_upto_region 16 with (fail)
      rw [HSS.out]
      clear s1 HSS
      go_wp2_with fail
      refine HL1.out.mono ?_
      rintro e w4 ⟨v4, K4, rfl, q4, b4⟩
      obtain ⟨a4, c4, rfl⟩ := q4.form
      have B4 := Lib.hid (B3.out.trans (b4.mono B3.out.size))
      have HS2 := HALL.out w4 S2 B4.out HS2L.out
      rw [HFS.out] at HS2
      have HL2 := Lib.hid HS2
      have Q4 := Lib.hid q4
      clear q4 b4 HS2 HALL HL1
      go_wp2_with fail
      refine HL2.out.mono ?_
      rintro e w5 ⟨v5, K5, rfl, q5, b5⟩
      obtain ⟨a5, c5, rfl⟩ := q5.form
      have B5 := Lib.hid (B4.out.trans (b5.mono B4.out.size))
      obtain ⟨ga, ca', vfa, hva, _, _, _, _, x4, _, _, _⟩ := (Q4.out.later b5).at (i := 0) rfl
      obtain ⟨gb, cb', vfb, hvb, _, _, _, _, y4, _, _, _⟩ := q5.at (i := 0) rfl
      injection hva with hva _ ea
      injection hvb with hvb _ eb
      subst hva ea hvb eb
      simp only [Nat.zero_mul, Nat.zero_add] at x4 y4
      have hz1 : (fullV (putR pre)).body = pre := rfl
      rw [hz1] at x4
      have n1 : rsZ.fault = 0 := rfl
      have n2 : rsZ.held = 0 := rfl
      have l1 : ([fullV (putR pre)].length : Int) = 1 := rfl
      clear q5 b5 HL2 hz1
      go_wp2_with fail
      go_ret
      exact ⟨rfl, B5.out⟩
    · have hrl : rest.length ≠ 0 := fun e => hr0 (List.eq_nil_of_length_eq_zero e)
      have hrz : (0 : Int) < (rest.length : Int) := by omega
      clear hr0
      go_upto_region 11 with (fail)
      go_cut [60] (fun s60 wx => wx = wr ∧ ∃ b, s60 = .bool b ∧ Hid (b = true → ∃ k : Nat, zs[i]? = some (k : Int) ∧ 0 < k ∧ k < rest.length))
      case first =>
        by_cases hi : i < zs.length
        · have hiz : (i : Int) < (zs.length : Int) := by omega
          obtain ⟨z, hz⟩ : ∃ z, zs[i]? = some z := ⟨_, List.getElem?_eq_getElem hi⟩
          obtain ⟨b, off, rfl, k0⟩ := HC.out i z hz
          have e0 := cell_later (B2.out.trans (BR.out.mono B2.out.size)) k0
          have HZ := Lib.hid hz
          clear k0 hz
          by_cases h0 : 0 < z
          · by_cases h1 : z < (rest.length : Int)
            · have HB : Hid ((true = true) → ∃ k : Nat, zs[i]? = some (k : Int) ∧ 0 < k ∧ k < rest.length) := fun _ => ⟨z.toNat, by rw [HZ.out]; congr 1; omega, by omega, by omega⟩
              go_wp2_with fail
              go_meet
              case rel => exact ⟨rfl, true, rfl, fun _ => HB.out trivial⟩
            · go_wp2_with fail
              go_meet
              case rel => exact ⟨rfl, false, rfl, fun h => by cases h⟩
          · go_wp2_with fail
            go_meet
            case rel => exact ⟨rfl, false, rfl, fun h => by cases h⟩
        · have hiz : (zs.length : Int) ≤ (i : Int) := by omega
          go_wp2_with fail
          go_meet
          case rel => exact ⟨rfl, false, rfl, fun h => by cases h⟩
      case rest =>
      obtain ⟨rfl, b60, hs60, HB60⟩ := hcut
      subst hs60
      obtain ⟨wr, rfl⟩ : ∃ wx : World, wx = wc := ⟨_, rfl⟩
      go_upto_if 60 with (fail)
      go_cut [13] (fun s13 wx => ∃ n : Nat, s13 = .int .i64 n ∧ 0 < n ∧ n ≤ rest.length ∧ wx = wr)
      case first =>
        cases b60
        · go_wp2_with fail
          go_meet
          case rel => exact ⟨rest.length, rfl, by omega, Nat.le_refl _, rfl⟩
        · obtain ⟨k, hz, hk0, hk1⟩ := HB60.out rfl
          have hi := (List.getElem?_eq_some_iff.1 hz).1
          have hiz : (i : Int) < (zs.length : Int) := by omega
          obtain ⟨b, off, rfl, k0⟩ := HC.out i _ hz
          have e0 := cell_later (B2.out.trans (BR.out.mono B2.out.size)) k0
          clear k0 hz
          go_wp2_with fail
          go_meet
          case rel => exact ⟨k, rfl, hk0, by omega, rfl⟩
      case rest =>
      obtain ⟨n, hs13, hn0, hnl, rfl⟩ := hcut
      subst hs13
      obtain ⟨w3, rfl⟩ : ∃ wx : World, wx = wc := ⟨_, rfl⟩
      have HSX : Hid (∀ W, Calls Tryz.prog 31 #[.int .i64 n, .bool up] W fun e w' => e = .returned (.string ⟨(sixL up n).toArray⟩) ∧ ∃ m, w' = W.drewN m) := fun W => sixteenths_any up n W (by omega)
      have h6l := six_len up 3 n (by omega)
      have htk := extract_take ⟨rest.toArray⟩ n
      have hdp := extract_drop ⟨rest.toArray⟩ n
      simp only at htk hdp
      have hsz : (⟨rest.toArray⟩ : ByteArray).size = rest.length := by simp [ByteArray.size]
      rw [hsz] at hdp
      obtain ⟨x, hx⟩ : ∃ x, rest.take n = x := ⟨_, rfl⟩
      obtain ⟨y, hy⟩ : ∃ y, rest.drop n = y := ⟨_, rfl⟩
      have hxy : x ++ y = rest := by rw [← hx, ← hy, List.take_append_drop]
      have hxl : x.length = n := by rw [← hx, List.length_take]; omega
      have hyl : y.length = rest.length - n := by rw [← hy, List.length_drop]
      have HSTEP : Hid (Chunked (S ++ (sixL up n ++ [13, 10] ++ x ++ [10])) (pre ++ x)) := by
        have := CH.out.step up x (fun e => by rw [e] at hxl; simp at hxl; omega) (by omega)
        rw [hxl] at this
        exact this
      have HPB : Hid ((pre ++ x) ++ y = BD) := by show _ = _; rw [List.append_assoc, hxy]; exact HPR.out
      have hXL : (pre ++ x).length = pre.length + n := by rw [List.length_append, hxl]
      have HXL := Lib.hid hXL
      have HYL := Lib.hid hyl
      have HXX := Lib.hid hxl
      have e1 : (⟨rest.toArray⟩ : ByteArray).extract 0 n = ⟨x.toArray⟩ := by rw [htk, ← hx]
      have e2 : (⟨rest.toArray⟩ : ByteArray).extract n rest.length = ⟨y.toArray⟩ := by rw [hdp, ← hy]
      generalize sixL up n = X at *
      have s1 : ¬ 9223372036854775807 < S.length + X.length := by omega
      have s2 : ¬ 9223372036854775807 < S.length + X.length + 2 := by omega
      have s3 : ¬ 9223372036854775807 < S.length + X.length + 2 + n := by omega
      have s4 : ¬ 9223372036854775807 < S.length + X.length + 2 + n + 1 := by omega
      have s5 : ¬ 9223372036854775807 < S.length + X.length + 2 + x.length := by omega
      have s6 : ¬ 9223372036854775807 < S.length + X.length + 2 + x.length + 1 := by omega
      have s7 : ¬ 9223372036854775807 < S.length + X.length + 2 + min n rest.length := by omega
      have s8 : ¬ 9223372036854775807 < S.length + X.length + 2 + min n rest.length + 1 := by omega
      have hnz : (n : Int) ≤ (rest.length : Int) := by omega
      clear htk hdp hsz hx hy hxy hxl hyl hXL CH HPR
      go_upto_region 13 with (fail)
      go_quiet ((go_at_call 31; exact Calls.quiet_of (HSX.out _)))
      have E1 := Lib.hid e1
      have E2 := Lib.hid e2
      clear s1 s2 s3 s4 s5 s6 s7 s8
      go_wp2
      go_roundg y.length
      case measure => rw [HYL.out]; omega
      case rel =>
        refine ⟨_, pre ++ x, y, i + 1, ?_, ?_, by go_num, HPB.out, HSTEP, ?_, ?_, Nat.le_refl _, belowDrewN BR.out _⟩
        · exact congrArg Value.string (by (try rw [E1.out]); apply ByteArray.ext; simp)
        · exact congrArg Value.string (by first | exact E2.out | rfl)
        · rw [HXL.out]; simp only [List.length_append, List.length_cons, List.length_nil, HXX.out]; omega
        · rw [HXL.out]; omega
end Go.Proofs.YtdilmefeofdkmaaGreatDoor
