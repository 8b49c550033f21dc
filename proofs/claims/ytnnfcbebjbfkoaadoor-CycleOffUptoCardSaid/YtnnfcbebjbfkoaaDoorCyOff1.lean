/-
  longer: a text that is longer than each key.
-/
import Derived.Test.YtnnfcbebjbfkoaaDoorCyOffP
import Derived.Deep.LoopGhost
import Derived.Outline
namespace Go.Proofs.YtnnfcbebjbfkoaaDoor
open Go.RowKit

theorem exes_app (n : Nat) : exes n ++ ⟨#[120]⟩ = exes (n + 1) := by
  apply ByteArray.ext
  apply Array.ext'
  simp [exes, List.replicate_succ']

set_option maxHeartbeats 1000000 in
set_option maxRecDepth 100000 in
theorem longer_walk (rows : List RowV) (ups : List UploadV) (rv uv : Value) (w : World) (hR : RowsIn w rv rows) (hU : UploadsIn w uv ups) (hm : ∀ s ∈ rows.map RowV.key ++ ups.map UploadV.key, s.size ≤ 1048576) :
    Calls Tryd.prog 12 #[rv, uv] w fun e w' => e = .returned (.string (longer rows ups)) ∧ Below w.heap.size w w' := by
  obtain ⟨ar, cr, rfl, hrc, hrn, hrcells⟩ := hR
  obtain ⟨au, cu, rfl, hun, hucells⟩ := hU
  have HR := Lib.hid hrcells
  have HU := Lib.hid hucells
  have HM := Lib.hid hm
  have hbig : longest (rows.map RowV.key ++ ups.map UploadV.key) ≤ 1048576 := longest_le _ _ hm
  clear hrcells hucells hm
  obtain ⟨big, hbg⟩ : ∃ big, Hid (longest (rows.map RowV.key ++ ups.map UploadV.key) = big) := ⟨_, rfl⟩
  rw [hbg.out] at hbig
  go_enter Tryd.func12, Tryd.ntmps12
  go_wp2
  go_loopg [5, 6] rows.length (fun gg s5 s6 wr => ∃ k n : Nat, k ≤ rows.length ∧ rows.length - k ≤ gg ∧ s6 = .int .i64 k ∧ s5 = .int .i64 n ∧ n ≤ 1048576 ∧ Hid (longest ((rows.map RowV.key).take k) = n) ∧ Hid (Below w.heap.size w wr))
  case atStart => exact ⟨0, 0, Nat.zero_le _, by omega, rfl, rfl, by omega, Lib.hid (by simp [longest]), (show Hid _ from Below.refl _ _)⟩
  case round =>
    obtain ⟨k, n, hkn, hgg, rfl, rfl, hnb, HN, HB⟩ := hrel
    by_cases hlt : k < rows.length
    · obtain ⟨b, off, rfl, hc⟩ := HR.out (by omega)
      obtain ⟨r, HRK⟩ : ∃ r, Hid (rows[k]? = some r) := ⟨_, List.getElem?_eq_getElem hlt⟩
      have k0 : wr.cell? ⟨b, off + k * 18, none⟩ = some (.string r.key) := cell_later HB.out (hc k r HRK.out 0 _ rfl)
      have hltz : (k : Int) < (rows.length : Int) := by omega
      have hks : r.key.size ≤ 1048576 := HM.out _ (List.mem_append_left _ (List.mem_map.2 ⟨r, List.mem_of_getElem? HRK.out, rfl⟩))
      have HN' : Hid (longest ((rows.map RowV.key).take (k + 1)) = max n r.key.size) := by
        show _ = _
        rw [List.take_succ_eq_append_getElem (by simpa using hlt), longest_snoc, HN.out]
        have := (List.getElem?_eq_some_iff.1 HRK.out).2
        simp [this]
      clear hc
      by_cases hle : n ≤ r.key.size
      · have HN2 : Hid (longest ((rows.map RowV.key).take (k + 1)) = r.key.size) := by show _ = _; rw [HN'.out]; omega
        clear HN'
        go_wp2
        go_roundg (rows.length - (k + 1))
        case measure => omega
        case rel => exact ⟨k + 1, r.key.size, by omega, Nat.le_refl _, by go_num, by first | rfl | (simp; omega), hks, HN2, HB.out⟩
      · have HN2 : Hid (longest ((rows.map RowV.key).take (k + 1)) = n) := by show _ = _; rw [HN'.out]; omega
        clear HN'
        go_wp2
        go_roundg (rows.length - (k + 1))
        case measure => omega
        case rel => exact ⟨k + 1, n, by omega, Nat.le_refl _, by go_num, by first | rfl | (simp; omega), hnb, HN2, HB.out⟩
    · obtain rfl : k = rows.length := by omega
      obtain ⟨wo, rfl⟩ : ∃ wo : World, wo = wr := ⟨_, rfl⟩
      have HN0 : Hid (longest (rows.map RowV.key) = n) := by
        show _ = _
        rw [← HN.out, List.take_of_length_le (by simp)]
      clear HN
      go_wp2
      go_loopg [5, 7] ups.length (fun gg s5 s7 wr => ∃ k n : Nat, k ≤ ups.length ∧ ups.length - k ≤ gg ∧ s7 = .int .i64 k ∧ s5 = .int .i64 n ∧ n ≤ 1048576 ∧ Hid (longest (rows.map RowV.key ++ (ups.map UploadV.key).take k) = n) ∧ Hid (Below w.heap.size w wr))
      case atStart => exact ⟨0, n, Nat.zero_le _, by omega, rfl, rfl, hnb, Lib.hid (by rw [List.take_zero, List.append_nil]; exact HN0.out), HB.out⟩
      case round =>
        clear HN0 hnb
        obtain ⟨k, n, hkn, hgg, rfl, rfl, hnb, HN, HB⟩ := hrel
        by_cases hlt : k < ups.length
        · obtain ⟨b, off, rfl, hc⟩ := HU.out (by omega)
          obtain ⟨r, HRK⟩ : ∃ r, Hid (ups[k]? = some r) := ⟨_, List.getElem?_eq_getElem hlt⟩
          have k0 : wr.cell? ⟨b, off + k * 7 + 2, none⟩ = some (.string r.key) := cell_later HB.out (hc k r HRK.out 2 _ rfl)
          have hltz : (k : Int) < (ups.length : Int) := by omega
          have hks : r.key.size ≤ 1048576 := HM.out _ (List.mem_append_right _ (List.mem_map.2 ⟨r, List.mem_of_getElem? HRK.out, rfl⟩))
          have HN' : Hid (longest (rows.map RowV.key ++ (ups.map UploadV.key).take (k + 1)) = max n r.key.size) := by
            show _ = _
            rw [List.take_succ_eq_append_getElem (by simpa using hlt), ← List.append_assoc, longest_snoc, HN.out]
            have := (List.getElem?_eq_some_iff.1 HRK.out).2
            simp [this]
          clear hc
          by_cases hle : n ≤ r.key.size
          · have HN2 : Hid (longest (rows.map RowV.key ++ (ups.map UploadV.key).take (k + 1)) = r.key.size) := by show _ = _; rw [HN'.out]; omega
            clear HN'
            go_wp2
            go_roundg (ups.length - (k + 1))
            case measure => omega
            case rel => exact ⟨k + 1, r.key.size, by omega, Nat.le_refl _, by go_num, by first | rfl | (simp; omega), hks, HN2, HB.out⟩
          · have HN2 : Hid (longest (rows.map RowV.key ++ (ups.map UploadV.key).take (k + 1)) = n) := by show _ = _; rw [HN'.out]; omega
            clear HN'
            go_wp2
            go_roundg (ups.length - (k + 1))
            case measure => omega
            case rel => exact ⟨k + 1, n, by omega, Nat.le_refl _, by go_num, by first | rfl | (simp; omega), hnb, HN2, HB.out⟩
        · obtain rfl : k = ups.length := by omega
          obtain ⟨wo, rfl⟩ : ∃ wo : World, wo = wr := ⟨_, rfl⟩
          have HN0 : Hid (longest (rows.map RowV.key ++ ups.map UploadV.key) = n) := by
            show _ = _
            rw [← HN.out, List.take_of_length_le (by simp)]
          clear HN
          go_wp2
          go_loopg [8] (n + 1) (fun gg s8 wr => ∃ j : Nat, j ≤ n ∧ n - j ≤ gg ∧ s8 = .string (exes (j + 1)) ∧ Hid (Below w.heap.size w wr))
          case atStart => exact ⟨0, Nat.zero_le _, by omega, rfl, HB.out⟩
          case round =>
            obtain ⟨j, hjn, hgj, rfl, HB⟩ := hrel
            have hsz := exes_size (j + 1)
            by_cases hlt : j < n
            · go_wp2
              go_roundg (n - (j + 1))
              case measure => omega
              case rel => exact ⟨j + 1, by omega, Nat.le_refl _, congrArg Value.string (exes_app (j + 1)), HB.out⟩
            · obtain rfl : j = n := by omega
              have HE : Hid (longer rows ups = exes (j + 1)) := by show _ = _; unfold longer; rw [HN0.out]
              go_wp2
              go_ret
              rw [HE.out]
              exact ⟨rfl, HB.out⟩

end Go.Proofs.YtnnfcbebjbfkoaaDoor
