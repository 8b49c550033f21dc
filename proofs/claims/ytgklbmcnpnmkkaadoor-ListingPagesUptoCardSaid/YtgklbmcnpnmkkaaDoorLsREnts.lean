/-
  storehouseref20.Entries.
-/
import Derived.Test.YtgklbmcnpnmkkaaDoorLsRTold
import Derived.Test.YtgklbmcnpnmkkaaDoorLsRFind
import Derived.Test.YtgklbmcnpnmkkaaDoorLsFns
namespace Go.Proofs.YtgklbmcnpnmkkaaDoor
open Go.RowKit Go.Lib

theorem rEnts_one (k : Kind) (pre delim : List UInt8) (out : List RowD) (r : RowD) : rEnts k pre delim out [r] = (match entOf k pre delim r with
    | none => out
    | some e => if e.common && (out.getLastD rowZ).common && (out.getLastD rowZ).key == e.key then out else out ++ [e]) := by
  unfold rEnts
  cases entOf k pre delim r with
  | none => rfl
  | some e => simp only; split <;> rfl
theorem entOf_skip {k : Kind} {pre delim : List UInt8} {r : RowD} (h : r.common = true ∨ pre.isPrefixOf r.key = false) : entOf k pre delim r = none := by
  unfold entOf
  rcases h with h | h <;> simp [h]
theorem entOf_told {k : Kind} {pre delim : List UInt8} {r : RowD} (hc : r.common = false) (hp : pre.isPrefixOf r.key = true) (h : delim = [] ∨ findFrom r.key delim pre.length = none) : entOf k pre delim r = some (told k r) := by
  unfold entOf
  rw [hc, hp]
  rcases h with h | h
  · simp [h]
  · have : indexL delim (r.key.drop pre.length) = none := by
      unfold findFrom at h
      simpa using h
    simp [this]
theorem entOf_com {k : Kind} {pre delim : List UInt8} {r : RowD} (hc : r.common = false) (hp : pre.isPrefixOf r.key = true) (hd : delim ≠ []) {n : Nat} (h : findFrom r.key delim pre.length = some n) : entOf k pre delim r = some (comR (r.key.take (n + delim.length))) := by
  unfold findFrom at h
  obtain ⟨m, hm, rfl⟩ := Option.map_eq_some_iff.1 h
  unfold entOf
  rw [hc, hp]
  rw [List.isPrefixOf_iff_prefix] at hp
  obtain ⟨s, hs⟩ := hp
  simp only [Bool.not_true, Bool.or_self, Bool.false_eq_true, if_false, if_neg hd, hm]
  rw [← hs, List.drop_left, show m + pre.length + delim.length = pre.length + (m + delim.length) by omega, List.take_length_add_append]
theorem find_le {s what : List UInt8} {i n : Nat} (hi : i ≤ s.length) (hw : what ≠ []) (h : findFrom s what i = some n) : n + what.length ≤ s.length := by
  unfold findFrom at h
  obtain ⟨m, hm, rfl⟩ := Option.map_eq_some_iff.1 h
  have := index_len what hw _ m hm
  rw [List.length_drop] at this
  have := List.length_pos_iff.2 hw
  omega
theorem RowsOwn.at {w : World} {base : Nat} {av : Option Addr} {cv : Nat} {qs : List RowV} (h : RowsOwn w base (.slice av qs.length cv) qs) (hl : qs.length ≤ 140737488351232) {i : Nat} {q : RowV} (hi : qs[i]? = some q) :
    ∃ b off, av = some ⟨b, off, none⟩ ∧ ∀ j u, q.cells[j]? = some u → w.cell? ⟨b, off + i * 18 + j, none⟩ = some u := by
  have hs := own_slAt (rows := qs.map RowV.cells) (by rw [List.length_map]; exact h.own) (fun r hr => by obtain ⟨_, _, rfl⟩ := List.mem_map.1 hr; rfl) (by rw [List.length_map]; exact hl)
  obtain ⟨a', c', he, _, hc⟩ := hs
  injection he with h1 _ _
  subst h1
  exact hc i q.cells (by rw [List.getElem?_map, hi]; rfl)
def REntsOut (E : List RowD) (w : World) (e : Ending) (w' : World) : Prop :=
  ∃ (v : Value) (qs : List RowV), e = .returned v ∧ qs.map RowV.d = E ∧ RowsOwn w' w.heap.size v qs ∧ Below w.heap.size w w'
theorem comR_cells (key : List UInt8) : (RowV.mk (comR key) (.slice none 0 0) (.slice none 0 0)).cells = [.string ⟨key.toArray⟩, .bool true, .bool false, .int .i64 0, .bool false, .bool false, .string ⟨#[]⟩, .string ⟨#[]⟩, .int .i64 0, .int .i64 0, .slice none 0 0, .int .i64 0, .string ⟨#[]⟩, .string ⟨#[]⟩, .string ⟨#[]⟩, .string ⟨#[]⟩, .int .i64 0, .slice none 0 0] := rfl
/-- what the rows say so far, and one more -/
structure EntsAt (w wr : World) (k : Kind) (pre delim : List UInt8) (ps : List RowV) (i : Nat) (v : Value) (qs : List RowV) : Prop where
  rows : RowsOwn wr w.heap.size v qs
  says : qs.map RowV.d = rEnts k pre delim [] ((ps.map RowV.d).take i)
  below : Below w.heap.size w wr
  len : qs.length ≤ i
theorem EntsAt.stay {w wr w' : World} {k : Kind} {pre delim : List UInt8} {ps : List RowV} {i : Nat} {v : Value} {qs : List RowV} {p : RowV} (h : EntsAt w wr k pre delim ps i v qs) (hp : ps[i]? = some p) (hs : rEnts k pre delim (qs.map RowV.d) [p.d] = qs.map RowV.d) (hb : Below wr.heap.size wr w') : EntsAt w w' k pre delim ps (i + 1) v qs :=
  ⟨h.rows.later hb, by rw [rEnts_take k pre delim (ps.map RowV.d) (i := i) (r := p.d) (by rw [List.getElem?_map, hp]; rfl), ← h.says, hs], h.below.trans (hb.mono h.below.size), by have := h.len; omega⟩
theorem EntsAt.more {w wr w' w1 : World} {k : Kind} {pre delim : List UInt8} {ps : List RowV} {i : Nat} {v v1 : Value} {qs : List RowV} {p q : RowV} (h : EntsAt w wr k pre delim ps i v qs) (hp : ps[i]? = some p) (hs : rEnts k pre delim (qs.map RowV.d) [p.d] = qs.map RowV.d ++ [q.d]) (hb : Below wr.heap.size wr w')
    (hq : RowOwn w' w.heap.size q) (hown : w1.ownsRow w.heap.size 36 18 v1 (qs.length + 1) ((qs.map RowV.cells).flatten ++ q.cells)) (hg : w'.grownBy w1 v.ownBlock) : EntsAt w w1 k pre delim ps (i + 1) v1 (qs ++ [q]) := by
  have hr := h.rows.later hb
  refine ⟨hr.push hq hown hg (fun x hx g hgo => ?_), ?_, ?_, ?_⟩
  · have hrow : RowOwn w' w.heap.size x := by
      rcases hx with hx | rfl
      · exact hr.rows x hx
      · exact hq
    exact hrow.apart hr.own g hgo
  · rw [rEnts_take k pre delim (ps.map RowV.d) (i := i) (r := p.d) (by rw [List.getElem?_map, hp]; rfl), ← h.says, hs]
    simp
  · have b1 := h.below.trans (hb.mono h.below.size)
    exact ⟨hg.os.trans b1.os, hg.tape.trans b1.tape, hg.output.trans b1.output, Nat.le_trans b1.size hg.size, fun b hbb => (hg.block b (Nat.lt_of_lt_of_le hbb b1.size) (fun e => by have := (hr.own.lt b e.symm).1; omega)).trans (b1.block b hbb)⟩
  · rw [List.length_append]; have := h.len; simp; omega

set_option maxHeartbeats 8000000 in
set_option maxRecDepth 100000 in
theorem rEnts_any (k : Kind) {w : World} {a0 : Option Addr} {c0 : Nat} {ps : List RowV} {pre delim : List UInt8} (h : RowsIn w (.slice a0 ps.length c0) ps) (hz : ∀ p ∈ ps, SizeOK p.d) (hk : ∀ p ∈ ps, p.d.key.length ≤ 140737488355328) (hl : ps.length ≤ 16777216)
    (hpre : pre.length ≤ 140737488355328) (hdel : delim.length ≤ 140737488355300) :
    Calls Tryd.prog 54 #[.slice a0 ps.length c0, .string ⟨pre.toArray⟩, .string ⟨delim.toArray⟩, .int .i64 (kindI k)] w (REntsOut (rEnts k pre delim [] (ps.map RowV.d)) w) := by
  obtain ⟨i0, hi0, hz0, hz1, hz2⟩ := info_row
  have HR := Lib.hid h
  have HZ := Lib.hid (And.intro hz hk)
  clear h hz hk
  go_enter Tryd.func54, Tryd.ntmps54
  go_wp2_with fail
  go_loopg [9, 10] ps.length (fun gg s9 s10 wr => ∃ (i : Nat) (v : Value) (qs : List RowV), i ≤ ps.length ∧ ps.length - i ≤ gg ∧ s9 = v ∧ s10 = .int .i64 i ∧ Hid (EntsAt w wr k pre delim ps i v qs))
  case atStart => exact ⟨0, .slice none 0 0, [], Nat.zero_le _, by omega, rfl, rfl, ⟨⟨World.ownsRow_nil _ _ _ _, fun p hp => by cases hp⟩, rfl, Below.refl _ _, Nat.le_refl _⟩⟩
  case round =>
    obtain ⟨i, v, qs, hin, hgg, rfl, rfl, HE⟩ := hrel
    obtain ⟨av, cv, hv⟩ := own_form HE.out.rows.own
    subst hv
    by_cases hlt : i < ps.length
    · have hiz : (i : Int) < (ps.length : Int) := by omega
      obtain ⟨p, hip⟩ : ∃ p, ps[i]? = some p := ⟨_, List.getElem?_eq_getElem hlt⟩
      have hpm := List.mem_of_getElem? hip
      have HPK := Lib.hid (HZ.out.2 p hpm)
      have HPZ := Lib.hid (HZ.out.1 p hpm)
      obtain ⟨b1, o1, rfl, hcp, hrp⟩ := (HR.out.later HE.out.below).at hip
      have HC1 : Hid (wr.rangeAt b1 (o1 + i * 18) p.cells) := hcp
      have ck0 : wr.cell? ⟨b1, o1 + i * 18, none⟩ = some (.string ⟨p.d.key.toArray⟩) := hcp 0 _ rfl
      have ck1 : wr.cell? ⟨b1, o1 + i * 18 + 1, none⟩ = some (.bool p.d.common) := hcp 1 _ rfl
      have HRP := Lib.hid hrp
      have HIP := Lib.hid hip
      clear hcp hrp hip hpm
      go_wp2_with fail
      refine (starts_any p.d.key pre wr HPK.out hpre).mono ?_
      rintro e w2 ⟨rfl, rfl⟩
      obtain ⟨pf, hpf⟩ : ∃ pf, pre.isPrefixOf p.d.key = pf := ⟨_, rfl⟩
      rw [hpf]
      cases hc : p.d.common with
      | true =>
        have HS : Hid (rEnts k pre delim (qs.map RowV.d) [p.d] = qs.map RowV.d) := by show _ = _; rw [rEnts_one, entOf_skip (.inl hc)]
        rw [hc] at ck1
        clear hc hpf
        go_wp2_with fail
        go_roundg (ps.length - (i + 1))
        case measure => omega
        case rel => exact ⟨i + 1, _, qs, by omega, Nat.le_refl _, rfl, vnext, HE.out.stay HIP.out HS.out (Below.refl _ _)⟩
      | false =>
        rw [hc] at ck1
        cases pf with
        | false =>
          have HS : Hid (rEnts k pre delim (qs.map RowV.d) [p.d] = qs.map RowV.d) := by show _ = _; rw [rEnts_one, entOf_skip (.inr hpf)]
          clear hc hpf
          go_wp2_with fail
          go_roundg (ps.length - (i + 1))
          case measure => omega
          case rel => exact ⟨i + 1, _, qs, by omega, Nat.le_refl _, rfl, vnext, HE.out.stay HIP.out HS.out (Below.refl _ _)⟩
        | true =>
          have HPF : Hid (pre.length ≤ p.d.key.length) := by
            show _ ≤ _
            have h1 := hpf
            rw [List.isPrefixOf_iff_prefix] at h1
            exact h1.length_le
          go_upto_if 38 with (fail)
          go_cut [12] (fun s12 wx => ∃ at_ : Int, s12 = .int .i64 at_ ∧ wx = w2 ∧ Hid ((at_ = -1 ∧ entOf k pre delim p.d = some (told k p.d)) ∨ (∃ n : Nat, at_ = n ∧ n + delim.length ≤ p.d.key.length ∧ entOf k pre delim p.d = some (comR (p.d.key.take (n + delim.length))))))
          case first =>
            cases delim with
            | nil =>
              have HV := Lib.hid (entOf_told (k := k) (delim := []) hc hpf (.inl rfl))
              clear hc hpf
              go_wp2_with fail
              go_meet
              case rel => exact ⟨-1, rfl, rfl, .inl ⟨rfl, HV.out⟩⟩
            | cons d0 dt =>
              have HV : Hid ((findI p.d.key (d0 :: dt) pre.length = -1 ∧ entOf k pre (d0 :: dt) p.d = some (told k p.d)) ∨ (∃ n : Nat, findI p.d.key (d0 :: dt) pre.length = n ∧ n + (d0 :: dt).length ≤ p.d.key.length ∧ entOf k pre (d0 :: dt) p.d = some (comR (p.d.key.take (n + (d0 :: dt).length))))) := by
                show _ ∨ _
                unfold findI
                cases hf : findFrom p.d.key (d0 :: dt) pre.length with
                | none => exact .inl ⟨rfl, entOf_told hc hpf (.inr hf)⟩
                | some n => exact .inr ⟨n, rfl, find_le HPF.out (by simp) hf, entOf_com hc hpf (by simp) hf⟩
              clear hc hpf
              go_wp2_with fail
              refine (find_any p.d.key d0 dt pre.length _ HPK.out (by have := hdel; simp only [List.length_cons] at this; omega) HPF.out).mono ?_
              rintro e w3 ⟨rfl, rfl⟩
              go_wp2_with fail
              go_meet
              case rel => exact ⟨_, rfl, rfl, HV.out⟩
          case rest =>
            obtain ⟨at_, rfl, rfl, HV⟩ := hcut
            clear hc hpf
            rcases HV.out with ⟨rfl, hent⟩ | ⟨n, rfl, hnl, hent⟩
            · have HS : Hid (rEnts k pre delim (qs.map RowV.d) [p.d] = qs.map RowV.d ++ [told k p.d]) := by show _ = _; rw [rEnts_one, hent]; simp [told_common]
              clear hent HV
              go_wp2_with (refine wpList_load_mid (by rfl) 36 _ (by rfl) b1 (o1 + i * 18) (by rfl) p.cells _ HC1.out Tryd.underlying36 rfl (by rfl) ?_)
              refine (rTold_any k p _ HRP.out HPZ.out).mono ?_
              rintro e w3 ⟨q, rfl, hq, hown, hb⟩
              have HQ := Lib.hid hq
              have HOWN := Lib.hid hown
              have HB := Lib.hid hb
              have hql := HE.out.len
              clear hq hown hb
              simp only [RowV.cells]
              go_wp2_with (at_builtin; refine wpList_append_own _ rfl _ _ 22 rfl w.heap.size 36 i0 _ 18 216 Tryd.underlying22 hi0 hz0 hz1 hz2 rfl (by decide) _ _ _ rfl (own_later HE.out.rows.own (below_alloc HB.out (Nat.le_refl _) _)) ⟨w3.heap.size, 0, none⟩ 1 1 q.cells rfl rfl ?c1 ?c2 ?c3 ?c4 ?c5 ?_)
              case c1 => exact fun j u hj => cells_new _ _ _ _ _ hj
              case c2 => exact HOWN.out.one_mem
              case c3 => simp only [maxLen]; omega
              case c4 => omega
              case c5 => have := HE.out.below.size; have := HB.out.size; simp; omega
              intro v' w7 hown' hgrow _
              have HX : Hid (EntsAt w w7 k pre delim ps (i + 1) v' (qs ++ [q])) :=
                HE.out.more HIP.out (by rw [HQ.out]; exact HS.out) (below_alloc HB.out (Nat.le_refl _) _) ((HOWN.out.later (below_alloc (Below.refl _ _) (Nat.le_refl _) _)).base HE.out.below.size) hown' hgrow
              clear hown' hgrow HQ HOWN HB HS ck0 ck1
              go_wp2_with fail
              go_roundg (ps.length - (i + 1))
              case measure => omega
              case rel => exact ⟨i + 1, _, qs ++ [q], by omega, Nat.le_refl _, rfl, vnext, HX.out⟩
            · obtain ⟨X, hX⟩ : ∃ X, p.d.key.take (n + delim.length) = X := ⟨_, rfl⟩
              have hx := ext_take p.d.key (n + delim.length)
              rw [hX] at hx hent
              have HENT := Lib.hid hent
              have hnz : (n : Int) + (delim.length : Int) ≤ (p.d.key.length : Int) := by omega
              have hkl := HPK.out
              have hql := HE.out.len
              clear hent HV hX
              go_upto_region 14 with (fail)
              rw [hx]
              obtain ⟨M, hM⟩ : ∃ M : Int, (qs.length : Int) - 1 = M := ⟨_, rfl⟩
              rw [hM]
              have HM := Lib.hid hM
              clear hx ck0 ck1 hM
              go_cut [90] (fun s90 wx => ∃ b : Bool, s90 = .bool b ∧ wx = wc ∧ Hid (rEnts k pre delim (qs.map RowV.d) [p.d] = if b then qs.map RowV.d ++ [comR X] else qs.map RowV.d))
              case first =>
                by_cases hq0 : qs.length = 0
                · obtain rfl := List.eq_nil_of_length_eq_zero hq0
                  have HS : Hid (rEnts k pre delim (([] : List RowV).map RowV.d) [p.d] = if true then ([] : List RowV).map RowV.d ++ [comR X] else ([] : List RowV).map RowV.d) := by show _ = _; rw [rEnts_one, HENT.out]; simp [rowZ]
                  clear hq0
                  obtain rfl : M = -1 := HM.out.symm
                  go_wp2_with fail
                  go_meet
                  case rel => exact ⟨true, rfl, rfl, HS.out⟩
                · obtain ⟨N, hN⟩ : ∃ N, qs.length = N + 1 := ⟨qs.length - 1, by omega⟩
                  obtain ⟨q, hiq⟩ : ∃ q, qs[N]? = some q := ⟨_, List.getElem?_eq_getElem (by omega)⟩
                  have hlast := last_get hN hiq
                  obtain ⟨b2, o2, rfl, hcq⟩ := HE.out.rows.at (by omega) hiq
                  have k0 : wc.cell? ⟨b2, o2 + N * 18, none⟩ = some (.string ⟨q.d.key.toArray⟩) := hcq 0 _ rfl
                  have k1 : wc.cell? ⟨b2, o2 + N * 18 + 1, none⟩ = some (.bool q.d.common) := hcq 1 _ rfl
                  have HS : Hid (rEnts k pre delim (qs.map RowV.d) [p.d] = if (!q.d.common || !(q.d.key == X)) then qs.map RowV.d ++ [comR X] else qs.map RowV.d) := by
                    show _ = _
                    rw [rEnts_one, HENT.out]
                    simp only [hlast]
                    by_cases he : q.d.key = X
                    · cases q.d.common <;> simp [comR, he]
                    · cases q.d.common <;> simp [comR, he]
                  obtain rfl : M = (N : Int) := by have := HM.out; omega
                  have hNl : (N : Int) < (qs.length : Int) := by omega
                  have hNn : N < qs.length := by omega
                  clear hcq hiq hlast hq0 hN
                  cases hcm : q.d.common with
                  | false =>
                    rw [hcm] at k1
                    go_wp2_with fail
                    go_meet
                    case rel => exact ⟨true, rfl, rfl, by have := HS.out; rw [hcm] at this; exact this⟩
                  | true =>
                    rw [hcm] at k1
                    go_wp2_with fail
                    go_meet
                    case rel => exact ⟨!(q.d.key == X), by go_num, rfl, by have := HS.out; rw [hcm] at this; exact this⟩
              case rest =>
                obtain ⟨b, rfl, rfl, HS⟩ := hcut
                cases b with
                | false =>
                  have HS2 : Hid (rEnts k pre delim (qs.map RowV.d) [p.d] = qs.map RowV.d) := HS.out
                  clear HS
                  go_wp2_with fail
                  go_roundg (ps.length - (i + 1))
                  case measure => omega
                  case rel => exact ⟨i + 1, _, qs, by omega, Nat.le_refl _, rfl, vnext, HE.out.stay HIP.out HS2.out (Below.refl _ _)⟩
                | true =>
                  have HS2 : Hid (rEnts k pre delim (qs.map RowV.d) [p.d] = qs.map RowV.d ++ [comR X]) := HS.out
                  clear HS
                  go_wp2_with (at_builtin; refine wpList_append_own _ rfl _ _ 22 rfl w.heap.size 36 i0 _ 18 216 Tryd.underlying22 hi0 hz0 hz1 hz2 rfl (by decide) _ _ _ rfl (own_later HE.out.rows.own (below_alloc (Below.refl _ _) (Nat.le_refl _) _)) ⟨wc.heap.size, 0, none⟩ 1 1 (RowV.mk (comR X) (.slice none 0 0) (.slice none 0 0)).cells rfl rfl ?c1 ?c2 ?c3 ?c4 ?c5 ?_)
                  case c1 => exact fun j u hj => cells_new _ _ _ _ _ hj
                  case c2 => exact (RowOwn.one_mem (w := wc) (base := w.heap.size) ⟨World.ownsRow_nil _ _ _ _, World.ownsRow_nil _ _ _ _⟩)
                  case c3 => simp only [maxLen]; omega
                  case c4 => omega
                  case c5 => have := HE.out.below.size; simp; omega
                  intro v' w7 hown' hgrow _
                  have HX : Hid (EntsAt w w7 k pre delim ps (i + 1) v' (qs ++ [RowV.mk (comR X) (.slice none 0 0) (.slice none 0 0)])) :=
                    HE.out.more HIP.out HS2.out (below_alloc (Below.refl _ _) (Nat.le_refl _) _) ⟨World.ownsRow_nil _ _ _ _, World.ownsRow_nil _ _ _ _⟩ hown' hgrow
                  clear hown' hgrow HS2
                  go_wp2_with fail
                  go_roundg (ps.length - (i + 1))
                  case measure => omega
                  case rel => exact ⟨i + 1, _, _, by omega, Nat.le_refl _, rfl, vnext, HX.out⟩
    · obtain rfl : i = ps.length := by omega
      have HF : Hid (qs.map RowV.d = rEnts k pre delim [] (ps.map RowV.d)) := by
        have := HE.out.says
        rw [List.take_of_length_le (by rw [List.length_map]; exact Nat.le_refl _)] at this
        exact this
      go_wp2_with fail
      go_ret
      exact ⟨_, qs, rfl, HF.out, HE.out.rows, HE.out.below⟩
end Go.Proofs.YtgklbmcnpnmkkaaDoor
