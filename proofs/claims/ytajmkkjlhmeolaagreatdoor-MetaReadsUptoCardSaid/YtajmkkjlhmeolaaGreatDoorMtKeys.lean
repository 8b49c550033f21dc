/-
  The keys: what they are; key, BucketKey, VersionKey, UploadKey, BlobKey, PartKey, SeqKey: the walks.
-/
import Derived.Test.YtajmkkjlhmeolaaGreatDoorMtBucketW
import Derived.Test.YtajmkkjlhmeolaaGreatDoorSm9
namespace Go.Proofs.YtajmkkjlhmeolaaGreatDoor
open Go.RowKit Go.Lib

def keyL (head : List UInt8) (n : Int) : List UInt8 := if 1 ≤ n ∧ n ≤ 9007199254740991 then head ++ numText n else []
def bucketKeyL (b : List UInt8) : List UInt8 := if bucketB b = true then [98, 47] ++ b else []
def versionKeyL (b k : List UInt8) (n : Int) : List UInt8 := if bucketB b = true ∧ 1 ≤ k.length ∧ k.length ≤ 100 then keyL ([118, 47] ++ b ++ [47] ++ k ++ [47]) n else []
def partKeyL (n m : Int) : List UInt8 := if (1 ≤ n ∧ n ≤ 9007199254740991) ∧ 1 ≤ m ∧ m ≤ 20 then [112, 47] ++ numText n ++ [47] ++ itoa (m / 10) ++ itoa (m % 10) else []

/-- a text comes back -/
def StrOut (l : List UInt8) (w : World) (e : Ending) (w' : World) : Prop := e = .returned (.string ⟨l.toArray⟩) ∧ Below w.heap.size w w'
theorem str_app (a b : List UInt8) : (⟨a.toArray⟩ : ByteArray) ++ ⟨b.toArray⟩ = ⟨(a ++ b).toArray⟩ := by apply ByteArray.ext; simp
theorem ret_str {a : ByteArray} {l : List UInt8} (h : a = ⟨l.toArray⟩) : Ending.returned (.string a) = .returned (.string ⟨l.toArray⟩) := by rw [h]

set_option maxHeartbeats 1000000 in
theorem key_any (h : List UInt8) (hl : h.length ≤ 1000) (n : Int) (hn : IntOK n) (w : World) (hG : Glob w) : Calls Tryz.prog 48 #[.string ⟨h.toArray⟩, .int .i64 n] w (StrOut (keyL h n) w) := by
  obtain ⟨R, hR⟩ : ∃ R, Hid (keyL h n = R) := ⟨_, rfl⟩
  rw [hR.out]
  obtain ⟨hn1, hn2⟩ := hn
  have HN := Lib.hid (number_any n ⟨hn1, hn2⟩ w hG.tz)
  clear hG
  by_cases h1 : n < 1
  · have HF : Hid (R = []) := by show _ = _; rw [← hR.out]; unfold keyL; rw [if_neg (by omega)]
    go_enter Tryz.func48, Tryz.ntmps48
    go_wp2
    go_ret
    rw [HF.out]
    exact ⟨rfl, Below.refl _ _⟩
  · by_cases h2 : 9007199254740991 < n
    · have HF : Hid (R = []) := by show _ = _; rw [← hR.out]; unfold keyL; rw [if_neg (by omega)]
      have h1' : 1 ≤ n := by omega
      clear h1
      go_enter Tryz.func48, Tryz.ntmps48
      go_wp2
      go_ret
      rw [HF.out]
      exact ⟨rfl, Below.refl _ _⟩
    · have HF : Hid (R = h ++ numText n) := by show _ = _; rw [← hR.out]; unfold keyL; rw [if_pos (by omega)]
      have h1' : 1 ≤ n := by omega
      have h2' : n ≤ 9007199254740991 := by omega
      have hT := (numText_in (n := n) ⟨by omega, h2'⟩).1
      obtain ⟨T, hTT⟩ : ∃ T, Hid (numText n = T) := ⟨_, rfl⟩
      rw [hTT.out] at HF HN hT
      have hTl : T.length ≤ 16 := by omega
      have hov : ¬ 9223372036854775807 < h.length + T.length := by omega
      clear h1 h2 hT
      go_enter Tryz.func48, Tryz.ntmps48
      go_wp2_with fail
      refine HN.out.mono ?_
      rintro e w1 ⟨rfl, hb1⟩
      have B1 := Lib.hid hb1
      clear hb1
      go_wp2
      go_ret
      exact ⟨ret_str (by rw [HF.out, ← str_app]), B1.out⟩

theorem numText_len (n : Int) : (numText n).length ≤ 16 := by
  by_cases h : 0 ≤ n ∧ n ≤ 9007199254740991
  · rw [(numText_in h).1]; exact Nat.le_refl _
  · rw [numText_out h]; simp
theorem keyL_len (h : List UInt8) (n : Int) : (keyL h n).length ≤ h.length + 16 := by
  unfold keyL
  split
  · have := numText_len n; simp; omega
  · simp

set_option maxHeartbeats 1000000 in
theorem uploadKey_any (n : Int) (hn : IntOK n) (w : World) (hG : Glob w) : Calls Tryz.prog 13 #[.int .i64 n] w (StrOut (keyL [117, 47] n) w) := by
  have HK := Lib.hid (key_any [117, 47] (by simp) n hn w hG)
  generalize keyL [117, 47] n = R at *
  clear hG
  go_enter Tryz.func13, Tryz.ntmps13
  go_wp2_with fail
  refine HK.out.mono ?_
  rintro e w1 ⟨rfl, hb1⟩
  have B1 := Lib.hid hb1
  clear hb1
  go_wp2
  go_ret
  exact ⟨rfl, B1.out⟩
set_option maxHeartbeats 1000000 in
theorem blobKey_any (n : Int) (hn : IntOK n) (w : World) (hG : Glob w) : Calls Tryz.prog 12 #[.int .i64 n] w (StrOut (keyL [100, 47] n) w) := by
  have HK := Lib.hid (key_any [100, 47] (by simp) n hn w hG)
  generalize keyL [100, 47] n = R at *
  clear hG
  go_enter Tryz.func12, Tryz.ntmps12
  go_wp2_with fail
  refine HK.out.mono ?_
  rintro e w1 ⟨rfl, hb1⟩
  have B1 := Lib.hid hb1
  clear hb1
  go_wp2
  go_ret
  exact ⟨rfl, B1.out⟩
theorem seqKey_any (w : World) : Calls Tryz.prog 46 #[] w (StrOut [110] w) := by
  go_enter Tryz.func46, Tryz.ntmps46
  go_wp2
  go_ret
  exact ⟨rfl, Below.refl _ _⟩

set_option maxHeartbeats 1000000 in
theorem bucketKey_any (b : List UInt8) (hb : b.length ≤ 140737488355328) (w : World) (hG : GlobK w) : Calls Tryz.prog 14 #[.string ⟨b.toArray⟩] w (StrOut (bucketKeyL b) w) := by
  have HB := Lib.hid (bucket_any b hb w hG)
  obtain ⟨R, hR⟩ : ∃ R, Hid (bucketKeyL b = R) := ⟨_, rfl⟩
  rw [hR.out]
  clear hG
  cases hq : bucketB b with
  | false =>
    rw [hq] at HB
    have HF : Hid (R = []) := by show _ = _; rw [← hR.out]; unfold bucketKeyL; rw [hq]; rfl
    clear hq
    go_enter Tryz.func14, Tryz.ntmps14
    go_wp2_with fail
    refine HB.out.mono ?_
    rintro e w1 ⟨rfl, hb1⟩
    have B1 := Lib.hid hb1
    clear hb1
    go_wp2
    go_ret
    rw [HF.out]
    exact ⟨rfl, B1.out⟩
  | true =>
    rw [hq] at HB
    have HF : Hid (R = [98, 47] ++ b) := by show _ = _; rw [← hR.out]; unfold bucketKeyL; rw [if_pos hq]
    have hov : ¬ 9223372036854775807 < 2 + b.length := by omega
    clear hq
    go_enter Tryz.func14, Tryz.ntmps14
    go_wp2_with fail
    refine HB.out.mono ?_
    rintro e w1 ⟨rfl, hb1⟩
    have B1 := Lib.hid hb1
    clear hb1
    go_wp2
    go_ret
    exact ⟨ret_str (by rw [HF.out, ← str_app]), B1.out⟩

set_option maxHeartbeats 2000000 in
theorem versionKey_any (b k : List UInt8) (n : Int) (hb : b.length ≤ 140737488355328) (hk : k.length ≤ 140737488355328) (hn : IntOK n) (w : World) (hG : GlobK w) : Calls Tryz.prog 10 #[.string ⟨b.toArray⟩, .string ⟨k.toArray⟩, .int .i64 n] w (StrOut (versionKeyL b k n) w) := by
  have HB := Lib.hid (bucket_any b hb w hG)
  have HG := Lib.hid hG
  obtain ⟨R, hR⟩ : ∃ R, Hid (versionKeyL b k n = R) := ⟨_, rfl⟩
  rw [hR.out]
  clear hG
  cases hq : bucketB b with
  | false =>
    rw [hq] at HB
    have HF : Hid (R = []) := by show _ = _; rw [← hR.out]; unfold versionKeyL; rw [if_neg (by rw [hq]; simp)]
    clear hq
    go_enter Tryz.func10, Tryz.ntmps10
    go_wp2_with fail
    refine HB.out.mono ?_
    rintro e w1 ⟨rfl, hb1⟩
    have B1 := Lib.hid hb1
    clear hb1
    go_wp2
    go_ret
    rw [HF.out]
    exact ⟨rfl, B1.out⟩
  | true =>
    rw [hq] at HB
    have hbl := (bucket_bytes hq).1
    by_cases hk1 : k.length < 1
    · have HF : Hid (R = []) := by show _ = _; rw [← hR.out]; unfold versionKeyL; rw [if_neg (by omega)]
      clear hq
      go_enter Tryz.func10, Tryz.ntmps10
      go_wp2_with fail
      refine HB.out.mono ?_
      rintro e w1 ⟨rfl, hb1⟩
      have B1 := Lib.hid hb1
      clear hb1
      go_wp2
      go_ret
      rw [HF.out]
      exact ⟨rfl, B1.out⟩
    · by_cases hk2 : 100 < k.length
      · have HF : Hid (R = []) := by show _ = _; rw [← hR.out]; unfold versionKeyL; rw [if_neg (by omega)]
        have hk1' : (1 : Int) ≤ (k.length : Int) := by omega
        have hk2' : (100 : Int) < (k.length : Int) := by omega
        clear hq hk1
        go_enter Tryz.func10, Tryz.ntmps10
        go_wp2_with fail
        refine HB.out.mono ?_
        rintro e w1 ⟨rfl, hb1⟩
        have B1 := Lib.hid hb1
        clear hb1
        go_wp2
        go_ret
        rw [HF.out]
        exact ⟨rfl, B1.out⟩
      · have HF : Hid (R = keyL ([118, 47] ++ b ++ [47] ++ k ++ [47]) n) := by show _ = _; rw [← hR.out]; unfold versionKeyL; rw [if_pos ⟨hq, by omega, by omega⟩]
        have hk1' : (1 : Int) ≤ (k.length : Int) := by omega
        have hk2' : (k.length : Int) ≤ 100 := by omega
        have n1 : ¬ 9223372036854775807 < 2 + b.length := by omega
        have n2 : ¬ 9223372036854775807 < 2 + b.length + 1 := by omega
        have n3 : ¬ 9223372036854775807 < 2 + b.length + 1 + k.length := by omega
        have n4 : ¬ 9223372036854775807 < 2 + b.length + 1 + k.length + 1 := by omega
        have HK := Lib.hid (fun W hG => key_any ([118, 47] ++ b ++ [47] ++ k ++ [47]) (by simp; omega) n hn W hG)
        have HS : Hid ((⟨#[118, 47]⟩ : ByteArray) ++ ⟨b.toArray⟩ ++ ⟨#[47]⟩ ++ ⟨k.toArray⟩ ++ ⟨#[47]⟩ = ⟨([118, 47] ++ b ++ [47] ++ k ++ [47]).toArray⟩) := by show _ = _; apply ByteArray.ext; simp
        rw [← HF.out] at HK
        clear hq hk1 hk2
        go_enter Tryz.func10, Tryz.ntmps10
        go_wp2_with fail
        refine HB.out.mono ?_
        rintro e w1 ⟨rfl, hb1⟩
        have B1 := Lib.hid hb1
        clear hb1
        go_wp2_with fail
        rw [HS.out]
        refine (HK.out _ (HG.out.later B1.out).g).mono ?_
        rintro e w2 ⟨rfl, hb2⟩
        have B2 := Lib.hid (B1.out.trans (hb2.mono B1.out.size))
        clear hb2
        go_wp2
        go_ret
        exact ⟨rfl, B2.out⟩

set_option maxHeartbeats 2000000 in
theorem partKey_any (n m : Int) (hn : IntOK n) (hm : IntOK m) (w : World) (hG : Glob w) : Calls Tryz.prog 23 #[.int .i64 n, .int .i64 m] w (StrOut (partKeyL n m) w) := by
  obtain ⟨R, hR⟩ : ∃ R, Hid (partKeyL n m = R) := ⟨_, rfl⟩
  rw [hR.out]
  have HK := Lib.hid (key_any [112, 47] (by simp) n hn w hG)
  have HG := Lib.hid hG
  obtain ⟨hm1, hm2⟩ := hm
  clear hG
  by_cases hin : 1 ≤ n ∧ n ≤ 9007199254740991
  · have HE : Hid (keyL [112, 47] n = [112, 47] ++ numText n) := by show _ = _; unfold keyL; rw [if_pos hin]
    obtain ⟨T, hT⟩ : ∃ T : List UInt8, Hid (([112, 47] : List UInt8) ++ numText n = T) := ⟨[112, 47] ++ numText n, rfl⟩
    have hTl : T.length ≤ 18 := by rw [← hT.out]; have := numText_len n; simp; omega
    have hTne : T.isEmpty = false := by rw [← hT.out]; rfl
    rw [HE.out, hT.out] at HK
    by_cases h1 : m < 1
    · have HF : Hid (R = []) := by show _ = _; rw [← hR.out]; unfold partKeyL; rw [if_neg (by omega)]
      clear hin
      go_enter Tryz.func23, Tryz.ntmps23
      go_wp2_with fail
      refine HK.out.mono ?_
      rintro e w1 ⟨rfl, hb1⟩
      have B1 := Lib.hid hb1
      clear hb1
      go_wp2
      go_ret
      rw [HF.out]
      exact ⟨rfl, B1.out⟩
    · by_cases h2 : 20 < m
      · have HF : Hid (R = []) := by show _ = _; rw [← hR.out]; unfold partKeyL; rw [if_neg (by omega)]
        have h1' : 1 ≤ m := by omega
        clear hin h1
        go_enter Tryz.func23, Tryz.ntmps23
        go_wp2_with fail
        refine HK.out.mono ?_
        rintro e w1 ⟨rfl, hb1⟩
        have B1 := Lib.hid hb1
        clear hb1
        go_wp2
        go_ret
        rw [HF.out]
        exact ⟨rfl, B1.out⟩
      · obtain ⟨A1, hA1⟩ : ∃ A1, Hid (itoa (m / 10) = A1) := ⟨_, rfl⟩
        obtain ⟨A2, hA2⟩ : ∃ A2, Hid (itoa (m % 10) = A2) := ⟨_, rfl⟩
        have HF : Hid (R = T ++ [47] ++ A1 ++ A2) := by show _ = _; rw [← hR.out]; unfold partKeyL; rw [if_pos ⟨hin, by omega, by omega⟩, hT.out, hA1.out, hA2.out]
        have h1' : 1 ≤ m := by omega
        have h2' : m ≤ 20 := by omega
        have hl1 : A1.length ≤ 21 := by rw [← hA1.out]; exact itoa_length_le _ (by omega) (by omega)
        have hl2 : A2.length ≤ 21 := by rw [← hA2.out]; exact itoa_length_le _ (by omega) (by omega)
        have HI1 : Hid (∀ W, Glob W → Calls Tryz.prog 58 #[.int .i64 (m / 10)] W fun e w' => e = .returned (.string ⟨A1.toArray⟩) ∧ Below W.heap.size W w') := fun W hg => by rw [← hA1.out]; exact itoa_any _ (by unfold IntOK; omega) W hg
        have HI2 : Hid (∀ W, Glob W → Calls Tryz.prog 58 #[.int .i64 (m % 10)] W fun e w' => e = .returned (.string ⟨A2.toArray⟩) ∧ Below W.heap.size W w') := fun W hg => by rw [← hA2.out]; exact itoa_any _ (by unfold IntOK; omega) W hg
        have n1 : ¬ 9223372036854775807 < T.length + 1 := by omega
        have n2 : ¬ 9223372036854775807 < T.length + 1 + A1.length := by omega
        have n3 : ¬ 9223372036854775807 < T.length + 1 + A1.length + A2.length := by omega
        clear hin h1 h2
        go_enter Tryz.func23, Tryz.ntmps23
        go_wp2_with fail
        refine HK.out.mono ?_
        rintro e w1 ⟨rfl, hb1⟩
        have B1 := Lib.hid hb1
        clear hb1
        go_wp2_with fail
        refine (HI1.out _ (HG.out.later B1.out)).mono ?_
        rintro e w2 ⟨rfl, hb2⟩
        have B2 := Lib.hid (B1.out.trans (hb2.mono B1.out.size))
        clear hb2
        go_wp2_with fail
        refine (HI2.out _ (HG.out.later B2.out)).mono ?_
        rintro e w3 ⟨rfl, hb3⟩
        have B3 := Lib.hid (B2.out.trans (hb3.mono B2.out.size))
        clear hb3
        go_wp2
        go_ret
        exact ⟨ret_str (by rw [HF.out, ← str_app, ← str_app, ← str_app]), B3.out⟩
  · have HE : Hid (keyL [112, 47] n = []) := by show _ = _; unfold keyL; rw [if_neg hin]
    have HF : Hid (R = []) := by show _ = _; rw [← hR.out]; unfold partKeyL; rw [if_neg (fun h => hin h.1)]
    rw [HE.out] at HK
    clear hin
    go_enter Tryz.func23, Tryz.ntmps23
    go_wp2_with fail
    refine HK.out.mono ?_
    rintro e w1 ⟨rfl, hb1⟩
    have B1 := Lib.hid hb1
    clear hb1
    go_wp2
    go_ret
    rw [HF.out]
    exact ⟨rfl, B1.out⟩

/-- what a key stands for -/
structure PlaceV where
  kind : Int
  bucket : List UInt8
  key : List UInt8
  seq : Int
  num : Int
def PlaceV.cells (p : PlaceV) : Array Value := #[.int .u8 p.kind, .string ⟨p.bucket.toArray⟩, .string ⟨p.key.toArray⟩, .int .i64 p.seq, .int .i64 p.num]
def placeKeyL (p : PlaceV) : List UInt8 :=
  if p.kind = 98 then bucketKeyL p.bucket else if p.kind = 118 then versionKeyL p.bucket p.key p.seq else if p.kind = 117 then keyL [117, 47] p.seq
  else if p.kind = 112 then partKeyL p.seq p.num else if p.kind = 100 then keyL [100, 47] p.seq else [110]

end Go.Proofs.YtajmkkjlhmeolaaGreatDoor
