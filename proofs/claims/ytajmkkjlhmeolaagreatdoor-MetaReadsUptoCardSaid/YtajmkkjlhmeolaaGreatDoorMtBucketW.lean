/-
  uri.Bucket: the walk, joined.
-/
import Derived.Test.YtajmkkjlhmeolaaGreatDoorSm6
import Derived.Test.YtajmkkjlhmeolaaGreatDoorMtHexInt
import Derived.Deep.DeepCutAuto
namespace Go.Proofs.YtajmkkjlhmeolaaGreatDoor
open Go.RowKit Go.Lib

theorem split_any (s : List UInt8) (hl : s.length ≤ 63) (w : World) (hG : GlobK w) : Calls Tryz.prog 83 #[.string ⟨s.toArray⟩, .string ⟨#[46]⟩] w fun e w' =>
    e = .returned (.slice (some ⟨w.heap.size, 0, none⟩) (labels s).length (labels s).length) ∧ w' = w.alloc (.cells ((labels s).map fun l => Value.string ⟨l.toArray⟩).toArray 9) := by
  have hsz : (⟨s.toArray⟩ : ByteArray).size = s.length := by simp [ByteArray.size]
  obtain ⟨m, hm⟩ := hG.max
  obtain ⟨h1, h2⟩ := split_labels _ ⟨s.toArray⟩ (Nat.le_refl _)
  refine (Tryz.strings_Split ⟨s.toArray⟩ ⟨#[46]⟩ m w (by omega) hm (by decide)).mono ?_
  rintro e w' ⟨rfl, rfl⟩
  rw [h1, h2, List.map_map]
  exact ⟨rfl, rfl⟩

theorem labels_len : ∀ (l : List UInt8), (labels l).length ≤ l.length + 1
  | [] => by simp [labels]
  | c :: r => by
    have := labels_len r
    simp only [labels]
    split
    · simp; omega
    · split
      · simp
      · rename_i h t e; rw [e] at this; simp at this ⊢; omega
theorem label_len : ∀ (l : List UInt8), ∀ x ∈ labels l, x.length ≤ l.length
  | [], x, h => by simp [labels] at h; simp [h]
  | c :: r, x, h => by
    have ih := label_len r
    simp only [labels] at h
    split at h
    · rcases List.mem_cons.1 h with rfl | h
      · simp
      · have := ih x h; simp; omega
    · split at h
      · rename_i e; exact absurd e (labels_ne r)
      · rename_i a t e
        rcases List.mem_cons.1 h with rfl | h
        · have := ih a (by rw [e]; simp); simp; omega
        · have := ih x (by rw [e]; simp [h]); simp; omega

set_option maxHeartbeats 4000000 in
set_option maxRecDepth 100000 in
theorem bucket_any (s : List UInt8) (hs : s.length ≤ 140737488355328) (w : World) (hG : GlobK w) : Calls Tryz.prog 47 #[.string ⟨s.toArray⟩] w fun e w' => e = .returned (.bool (bucketB s)) ∧ Below w.heap.size w w' := by
  obtain ⟨res, hres⟩ : ∃ b, Hid (bucketB s = b) := ⟨_, rfl⟩
  rw [hres.out]
  have HR : Hid (res = (decide (3 ≤ s.length ∧ s.length ≤ 63) && (labels s).all labelB && (decide ((labels s).countP digB < (labels s).length) || (labels s).length != 4))) := hres.out.symm
  have HG := Lib.hid hG
  clear hG
  by_cases h1 : s.length < 3
  · have HF : Hid (res = false) := by show _ = _; rw [HR.out, decide_eq_false (by omega)]; rfl
    go_enter Tryz.func47, Tryz.ntmps47
    go_wp2
    go_ret
    rw [HF.out]
    exact ⟨rfl, Below.refl _ _⟩
  · by_cases h2 : 63 < s.length
    · have HF : Hid (res = false) := by show _ = _; rw [HR.out, decide_eq_false (by omega)]; rfl
      have h1' : (3 : Int) ≤ (s.length : Int) := by omega
      have h2' : (63 : Int) < (s.length : Int) := by omega
      clear h1
      go_enter Tryz.func47, Tryz.ntmps47
      go_wp2
      go_ret
      rw [HF.out]
      exact ⟨rfl, Below.refl _ _⟩
    · have h1' : 3 ≤ s.length := by omega
      have h2' : s.length ≤ 63 := by omega
      have HS := Lib.hid (fun W hG => split_any s h2' W hG)
      have hll := labels_len s
      have HLL := Lib.hid (label_len s)
      rw [decide_eq_true (show 3 ≤ s.length ∧ s.length ≤ 63 by omega), Bool.true_and] at HR
      obtain ⟨ls, hls⟩ : ∃ ls, Hid (labels s = ls) := ⟨_, rfl⟩
      rw [hls.out] at HR HS hll HLL
      clear h1 h2
      go_enter Tryz.func47, Tryz.ntmps47
      go_wp2_with fail
      refine (HS.out _ HG.out).mono ?_
      rintro e w1 ⟨rfl, hw1⟩
      have HC : Hid (∀ i x, ls[i]? = some x → w1.cell? ⟨w.heap.size, i, none⟩ = some (.string ⟨x.toArray⟩)) := fun i x hx => by
        rw [hw1]; exact cell_new _ _ _ _ _ _ rfl (by simp [hx])
      have B1 : Hid (Below w.heap.size w w1) := by show Below _ _ _; rw [hw1]; exact below_alloc (Below.refl _ _) (Nat.le_refl _) _
      clear hw1
      go_wp2
      go_loopg [4, 6, 19] ls.length (fun gg s4 _ s19 wr => ∃ (i : Nat) (n : Nat), i ≤ ls.length ∧ n ≤ i ∧ ls.length - i ≤ gg ∧ s19 = .int .i64 i ∧ s4 = .int .i64 n ∧ Hid (n = (ls.take i).countP digB) ∧ Hid (Below w1.heap.size w1 wr) ∧ Hid ((ls.take i).all labelB = true))
      case atStart => exact ⟨0, 0, Nat.zero_le _, Nat.le_refl _, by omega, rfl, rfl, rfl, Below.refl _ _, rfl⟩
      case round =>
        obtain ⟨i, n, hin, hni, hgg, rfl, rfl, HN, HB, HA⟩ := hrel
        by_cases hlt : i < ls.length
        · obtain ⟨l, hl⟩ : ∃ l, ls[i]? = some l := ⟨_, List.getElem?_eq_getElem hlt⟩
          have hc : wr.cell? ⟨w.heap.size, i, none⟩ = some (.string ⟨l.toArray⟩) := cell_later HB.out (HC.out i l hl)
          have hll2 : l.length ≤ 63 := by have := HLL.out l (List.mem_of_getElem? hl); omega
          have hlz : (i : Int) < (ls.length : Int) := by omega
          have HL := Lib.hid hl
          clear hl
          cases l with
          | nil =>
            have HF : Hid (res = false) := by
              show _ = _
              rw [HR.out, Bool.and_eq_false_iff]
              left
              rw [← Bool.not_eq_true, List.all_eq_true]
              intro h
              have := h [] (List.mem_of_getElem? HL.out)
              simp [labelB] at this
            go_wp2
            go_ret
            rw [HF.out]
            exact ⟨rfl, B1.out.trans (HB.out.mono B1.out.size)⟩
          | cons c r =>
            have hh := strHead c r
            have hrl : r.length ≤ 62 := by simp at hll2; omega
            obtain ⟨d, hd⟩ : ∃ d, (c :: r)[r.length]? = some d := ⟨_, List.getElem?_eq_getElem (by simp)⟩
            have hlg : (⟨(c :: r).toArray⟩ : ByteArray)[r.length]'(by simp [ByteArray.size]) = d := by
              have := (List.getElem?_eq_some_iff.1 hd).2
              rw [← this]; simp [ByteArray.getElem_eq_getElem_data]
            have HLAST : Hid ((c :: r).getLast? = some d) := by show _ = _; rw [List.getLast?_eq_getElem?]; simpa using hd
            have HNO : Hid (labelB (c :: r) = false → res = false) := fun hf => by
              rw [HR.out, Bool.and_eq_false_iff]
              left
              rw [← Bool.not_eq_true, List.all_eq_true]
              intro h
              rw [h _ (List.mem_of_getElem? HL.out)] at hf
              cases hf
            have B0 : Hid (Below w.heap.size w wr) := B1.out.trans (HB.out.mono B1.out.size)
            have HLB : Hid (labelB (c :: r) = (c != 45 && d != 45 && (c :: r).all okB)) := by
              show _ = _
              unfold labelB
              rw [HLAST.out]
              have hsb : ∀ a b : UInt8, (some a != some b) = (a != b) := fun _ _ => rfl
              simp only [List.head?_cons, hsb, List.isEmpty_cons, Bool.not_false, Bool.true_and]
            clear hd
            cases hcB : ((c.toNat : Int) == 45)
            · have hc45 : Hid ((c != 45) = true) := by
                show _ = _
                rw [bne_iff_ne]; intro e; rw [e] at hcB; exact absurd hcB (by decide)
              cases hdB : ((d.toNat : Int) == 45)
              · have hd45 : Hid ((d != 45) = true) := by
                  show _ = _
                  rw [bne_iff_ne]; intro e; rw [e] at hdB; exact absurd hdB (by decide)
                have HLB2 : Hid (labelB (c :: r) = (c :: r).all okB) := by show _ = _; rw [HLB.out, hc45.out, hd45.out]; rfl
                have TR := Lib.hid (fun W => trim_any (c :: r) hll2 W)
                have LW := Lib.hid (fun W hG => lower_any (c :: r) hll2 W hG)
                have CF := Lib.hid (fun W => contains_any_bad (c :: r) W)
                obtain ⟨T, hT⟩ : ∃ T, Hid (trimS (c :: r) [48, 49, 50, 51, 52, 53, 54, 55, 56, 57] = T) := ⟨_, rfl⟩
                obtain ⟨q, hq⟩ : ∃ q, Hid (decide (0 ≤ idxFunc badR true ⟨(c :: r).toArray⟩) = q) := ⟨_, rfl⟩
                rw [hT.out] at TR
                rw [hq.out] at CF
                have HML : Hid (∀ m, ((∀ x ∈ c :: r, x.toNat < 128) → m = toLowerA (c :: r)) → m ≠ c :: r → labelB (c :: r) = false) := fun m h1 h2 => by
                  rw [HLB2.out]
                  by_cases ha : ∀ x ∈ c :: r, x.toNat < 128
                  · have := label_ascii (c :: r) ha
                    rw [← h1 ha, show (m != c :: r) = true from by simpa using h2] at this
                    cases hx : (c :: r).all okB
                    · rfl
                    · rw [hx] at this; cases this
                  · exact (label_high _ ha).2
                have HQ : Hid (q = true → labelB (c :: r) = false) := fun h1 => by
                  rw [HLB2.out]
                  by_cases ha : ∀ x ∈ c :: r, x.toNat < 128
                  · have := label_ascii (c :: r) ha
                    rw [hq.out, h1, Bool.or_true] at this
                    cases hx : (c :: r).all okB
                    · rfl
                    · rw [hx] at this; cases this
                  · exact (label_high _ ha).2
                have HQ2 : Hid (q = false → ((∀ x ∈ c :: r, x.toNat < 128) → (c :: r) = toLowerA (c :: r)) → labelB (c :: r) = true) := fun h1 h2 => by
                  rw [HLB2.out]
                  by_cases ha : ∀ x ∈ c :: r, x.toNat < 128
                  · have := label_ascii (c :: r) ha
                    rw [← h2 ha, hq.out, h1] at this
                    simpa using this
                  · have h3 := (label_high _ ha).1
                    rw [← hq.out, decide_eq_false_iff_not] at h1
                    exact absurd h3 h1
                have HYES : Hid (labelB (c :: r) = true → (ls.take (i + 1)).all labelB = true) := fun h => by
                  rw [List.take_add_one, HL.out, List.all_append, HA.out]; simpa using h
                go_wp2_with fail
                refine (TR.out _).mono ?_
                rintro e w2 ⟨rfl, hb2⟩
                have B2 : Hid (Below w.heap.size w w2) := B0.out.trans (hb2.mono B0.out.size)
                have BB2 : Hid (Below w1.heap.size w1 w2) := HB.out.trans (hb2.mono HB.out.size)
                clear hb2 hc
                cases T with
                | nil =>
                  have HN2 : Hid (n + 1 = (ls.take (i + 1)).countP digB) := by
                    show _ = _
                    rw [List.take_add_one, HL.out, List.countP_append, ← HN.out]
                    simp [(trim_digits (c :: r)).1 hT.out]
                  go_wp2_with fail
                  refine (LW.out _ (HG.out.later B2.out)).mono ?_
                  rintro e w3 ⟨⟨m, rfl, hm⟩, hb3⟩
                  have HM := Lib.hid hm
                  have B3 : Hid (Below w.heap.size w w3) := B2.out.trans (hb3.mono B2.out.size)
                  have BB3 : Hid (Below w1.heap.size w1 w3) := BB2.out.trans (hb3.mono BB2.out.size)
                  clear hm hb3
                  cases hml : (m == c :: r)
                  · have HF : Hid (res = false) := HNO.out (HML.out m HM.out (by simpa using hml))
                    go_wp2
                    go_ret
                    rw [HF.out]
                    exact ⟨rfl, B3.out⟩
                  · obtain rfl : m = c :: r := by simpa using hml
                    go_wp2_with fail
                    refine (CF.out _).mono ?_
                    rintro e w4 ⟨rfl, hb4⟩
                    have B4 : Hid (Below w.heap.size w w4) := B3.out.trans (hb4.mono B3.out.size)
                    have BB4 : Hid (Below w1.heap.size w1 w4) := BB3.out.trans (hb4.mono BB3.out.size)
                    clear hb4
                    cases q with
                    | true =>
                      have HF : Hid (res = false) := HNO.out (HQ.out rfl)
                      go_wp2
                      go_ret
                      rw [HF.out]
                      exact ⟨rfl, B4.out⟩
                    | false =>
                      have HA2 : Hid ((ls.take (i + 1)).all labelB = true) := HYES.out (HQ2.out rfl HM.out)
                      go_wp2
                      go_roundg (ls.length - (i + 1))
                      case measure => omega
                      case rel => exact ⟨i + 1, n + 1, by omega, by omega, Nat.le_refl _, by go_num, by first | rfl | go_num, HN2, BB4, HA2⟩
                | cons t0 tr =>
                  have HN2 : Hid (n = (ls.take (i + 1)).countP digB) := by
                    show _ = _
                    rw [List.take_add_one, HL.out, List.countP_append, ← HN.out]
                    have : digB (c :: r) = false := by
                      rw [← Bool.not_eq_true]
                      intro h
                      have := (trim_digits (c :: r)).2 h
                      rw [hT.out] at this; cases this
                    simp [this]
                  go_wp2_with fail
                  refine (LW.out _ (HG.out.later B2.out)).mono ?_
                  rintro e w3 ⟨⟨m, rfl, hm⟩, hb3⟩
                  have HM := Lib.hid hm
                  have B3 : Hid (Below w.heap.size w w3) := B2.out.trans (hb3.mono B2.out.size)
                  have BB3 : Hid (Below w1.heap.size w1 w3) := BB2.out.trans (hb3.mono BB2.out.size)
                  clear hm hb3
                  cases hml : (m == c :: r)
                  · have HF : Hid (res = false) := HNO.out (HML.out m HM.out (by simpa using hml))
                    go_wp2
                    go_ret
                    rw [HF.out]
                    exact ⟨rfl, B3.out⟩
                  · obtain rfl : m = c :: r := by simpa using hml
                    go_wp2_with fail
                    refine (CF.out _).mono ?_
                    rintro e w4 ⟨rfl, hb4⟩
                    have B4 : Hid (Below w.heap.size w w4) := B3.out.trans (hb4.mono B3.out.size)
                    have BB4 : Hid (Below w1.heap.size w1 w4) := BB3.out.trans (hb4.mono BB3.out.size)
                    clear hb4
                    cases q with
                    | true =>
                      have HF : Hid (res = false) := HNO.out (HQ.out rfl)
                      go_wp2
                      go_ret
                      rw [HF.out]
                      exact ⟨rfl, B4.out⟩
                    | false =>
                      have HA2 : Hid ((ls.take (i + 1)).all labelB = true) := HYES.out (HQ2.out rfl HM.out)
                      go_wp2
                      go_roundg (ls.length - (i + 1))
                      case measure => omega
                      case rel => exact ⟨i + 1, n, by omega, by omega, Nat.le_refl _, by go_num, by first | rfl | go_num, HN2, BB4, HA2⟩
              · have HF : Hid (res = false) := HNO.out (by rw [HLB.out, show (d != 45) = false from by rw [bne_eq_false_iff_eq]; exact UInt8.toNat_inj.1 (by have := beq_iff_eq.1 hdB; have h45 : (45 : UInt8).toNat = 45 := rfl; omega)]; simp)
                go_wp2
                go_ret
                rw [HF.out]
                exact ⟨rfl, B0.out⟩
            · have HF : Hid (res = false) := HNO.out (by rw [HLB.out, show (c != 45) = false from by rw [bne_eq_false_iff_eq]; exact UInt8.toNat_inj.1 (by have := beq_iff_eq.1 hcB; have h45 : (45 : UInt8).toNat = 45 := rfl; omega)]; simp)
              go_wp2
              go_ret
              rw [HF.out]
              exact ⟨rfl, B0.out⟩
        · obtain rfl : i = ls.length := by omega
          rw [List.take_of_length_le (Nat.le_refl _)] at HN HA
          have B0 : Hid (Below w.heap.size w wr) := B1.out.trans (HB.out.mono B1.out.size)
          rw [HA.out, Bool.true_and, ← HN.out] at HR
          clear hlt hni
          by_cases hn : n < ls.length
          · have HF : Hid (res = true) := by show _ = _; rw [HR.out, decide_eq_true hn]; rfl
            have hnz : (n : Int) < (ls.length : Int) := by omega
            clear hn
            go_wp2
            go_ret
            rw [HF.out]
            exact ⟨rfl, B0.out⟩
          · have hnz : (ls.length : Int) ≤ (n : Int) := by omega
            have hnd : decide (n < ls.length) = false := decide_eq_false hn
            rw [decide_eq_false hn, Bool.false_or] at HR
            cases h4 : ((ls.length : Int) == 4)
            · have HF : Hid (res = true) := by
                show _ = _
                rw [HR.out, bne_iff_ne]; intro e; rw [e] at h4; exact absurd h4 (by decide)
              have h4' : ((ls.length : Int) != 4) = true := by rw [bne, h4]; rfl
              clear hn
              go_wp2
              go_ret
              rw [HF.out]
              exact ⟨rfl, B0.out⟩
            · have HF : Hid (res = false) := by
                show _ = _
                have : ls.length = 4 := by have := beq_iff_eq.1 h4; omega
                rw [HR.out, this]; rfl
              have h4' : ((ls.length : Int) != 4) = false := by rw [bne, h4]; rfl
              clear hn
              go_wp2
              go_ret
              rw [HF.out]
              exact ⟨rfl, B0.out⟩

end Go.Proofs.YtajmkkjlhmeolaaGreatDoor
