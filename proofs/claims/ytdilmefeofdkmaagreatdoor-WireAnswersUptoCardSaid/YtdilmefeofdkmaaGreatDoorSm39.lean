/-
  SEVERAL SMALL TEXTS IN ONE.
-/
import Derived.Test.YtdilmefeofdkmaaGreatDoorWiEx
import Derived.Test.YtdilmefeofdkmaaGreatDoorWxEnc2
import Derived.Test.YtdilmefeofdkmaaGreatDoorSm0
import Derived.ChangeSame
import Derived.Deep.Slices
/-
  The law WireAnswers: the walk.
-/
namespace Go.Proofs.YtdilmefeofdkmaaGreatDoor
open Go.RowKit

set_option maxHeartbeats 16000000 in
set_option maxRecDepth 100000 in
theorem answers_walk (n : Int) (hn : IntOK n) (vf : Value) (fs : List (List UInt8 × List UInt8)) (body : List UInt8) (bare close : Bool) (ee st : Int) (name : List UInt8) (w : World) (hG : Glob w) (hF : PairsAt w vf fs) (hfl : (fs.flatMap fieldT).length ≤ 1000000000) (hbl : body.length ≤ 1000000000) (hnl : name.length ≤ 1000000000) :
    Calls Tryz.prog 6 #[.agg #[.int .i64 n, vf, .string ⟨body.toArray⟩, .bool bare, .bool close], .int .i64 ee, .int .i64 st, .string ⟨name.toArray⟩] w fun e w' => e = .returned (.bool true) ∧ Below w.heap.size w w' := by
  have hfs : ∀ f ∈ fs, f.1.length ≤ 140737488351232 := fun f hf => by
    obtain ⟨i, hi⟩ := List.getElem?_of_mem hf
    have h1 : fs = fs.take i ++ f :: fs.drop (i + 1) := by
      have hlt := (List.getElem?_eq_some_iff.1 hi)
      conv => lhs; rw [← List.take_append_drop i fs, List.drop_eq_getElem_cons hlt.1, hlt.2]
    rw [h1, List.flatMap_append, List.length_append, List.flatMap_cons, List.length_append] at hfl
    have : (fieldT f).length = f.1.length + 2 + f.2.length + 2 := by simp [fieldT]; omega
    omega
  obtain ⟨w1, hw1⟩ : ∃ w1, w.alloc (.cells #[.int .i64 n, vf, .string ⟨body.toArray⟩, .bool bare, .bool close] 46) = w1 := ⟨_, rfl⟩
  have HB0 : Hid (Below w.heap.size w w1) := by rw [← hw1]; exact below_alloc (Below.refl _ _) (Nat.le_refl _) _
  have HH : Hid (w1.heap[w.heap.size]? = some (.cells #[.int .i64 n, vf, .string ⟨body.toArray⟩, .bool bare, .bool close] 46 (0, 0))) := by show _ = _; rw [← hw1]; exact heap_alloc_new _ _
  have HX := Lib.hid (ex_walk w1 (hG.later HB0.out))
  have HE1 := Lib.hid (fun W (hW : Below w.heap.size w W) => encode_any n hn (hF.later hW) hfl body hbl bare close (hG.later hW))
  have HE2 := Lib.hid (fun W (hW : Below w.heap.size w W) => rEncode_any n hn (hF.later hW) hfl body hbl bare close)
  have HF1 := Lib.hid (fun W (hW : Below w.heap.size w W) => fieldV_any (hF.later hW) hfs name (by omega))
  have HF2 := Lib.hid (fun W (hW : Below w.heap.size w W) => rField_any (hF.later hW) hfs name (by omega))
  have HS1 := Lib.hid (fun W => status_any ee W)
  have HS2 := Lib.hid (fun W => rStatus_any ee W)
  have HR1 := Lib.hid (fun W => reason_any st W)
  have HR2 := Lib.hid (fun W => rReason_any st W)
  obtain ⟨af, cf, rfl, _⟩ := hF
  generalize encodeV n fs body bare close = E at *
  generalize fieldV fs name = V at *
  generalize statusL ee = sv at *
  generalize reasonL st = rv at *
  clear hG hfl hfs
  have HW1 := Lib.hid hw1
  go_enter Tryz.func6, Tryz.ntmps6
  go_wp2_with fail
  refine HX.out.mono ?_
  rintro e w2 ⟨rfl, b2⟩
  have B2 := Lib.hid (HB0.out.trans (b2.mono HB0.out.size))
  have h2 := (b2.block _ (Array.getElem?_eq_some_iff.1 HH.out).1).trans HH.out
  have H2 := Lib.hid h2
  have k0 := cell_of_heap (x := 0) h2
  have k1 := cell_of_heap (x := 1) h2
  have k2 := cell_of_heap (x := 2) h2
  have k3 := cell_of_heap (x := 3) h2
  have k4 := cell_of_heap (x := 4) h2
  simp only [List.getElem?_toArray, List.getElem?_cons_zero, List.getElem?_cons_succ] at k0 k1 k2 k3 k4
  clear b2 HX HH hw1 h2
  go_wp2_with fail
  refine (HE1.out w2 B2.out).mono ?_
  rintro e w3 ⟨rfl, b3⟩
  have B3 := Lib.hid (B2.out.trans (b3.mono B2.out.size))
  have k0 := cell_later b3 k0
  have k1 := cell_later b3 k1
  have k2 := cell_later b3 k2
  have k3 := cell_later b3 k3
  have k4 := cell_later b3 k4
  clear b3 HE1
  go_wp2_with fail
  refine (HE2.out w3 B3.out).mono ?_
  rintro e w4 ⟨rfl, b4⟩
  have B4 := Lib.hid (B3.out.trans (b4.mono B3.out.size))
  have k1 := cell_later b4 k1
  clear b4 HE2 k0 k2 k3 k4
  go_wp2_with fail
  refine (HF1.out w4 B4.out).mono ?_
  rintro e w5 ⟨rfl, b5⟩
  have B5 := Lib.hid (B4.out.trans (b5.mono B4.out.size))
  have k1 := cell_later b5 k1
  clear b5 HF1
  go_wp2_with fail
  refine (HF2.out w5 B5.out).mono ?_
  rintro e w6 ⟨rfl, b6⟩
  have B6 := Lib.hid (B5.out.trans (b6.mono B5.out.size))
  clear b6 HF2 k1
  have hVi : ∀ b : Bool, (b == b) = true := fun b => by cases b <;> rfl
  obtain ⟨vi, hvi⟩ : ∃ x, V.isSome = x := ⟨_, rfl⟩
  rw [hvi]
  generalize V.getD [] = vs
  clear hvi
  cases E with
  | none =>
    simp only [Option.getD_none, Option.isSome_none]
    cases vi
    all_goals
      go_wp2_with (first
        | (go_at_call 26; refine (HS1.out _).mono ?_; rintro e w' ⟨rfl, rfl⟩)
        | (go_at_call 27; refine (HS2.out _).mono ?_; rintro e w' ⟨rfl, rfl⟩)
        | (go_at_call 28; refine (HR1.out _).mono ?_; rintro e w' ⟨rfl, rfl⟩)
        | (go_at_call 29; refine (HR2.out _).mono ?_; rintro e w' ⟨rfl, rfl⟩))
      go_ret
      exact ⟨rfl, B6.out⟩
  | some t =>
    simp only [Option.getD_some, Option.isSome_some]
    cases vi
    all_goals
      go_wp2_with (first
        | (go_at_call 26; refine (HS1.out _).mono ?_; rintro e w' ⟨rfl, rfl⟩)
        | (go_at_call 27; refine (HS2.out _).mono ?_; rintro e w' ⟨rfl, rfl⟩)
        | (go_at_call 28; refine (HR1.out _).mono ?_; rintro e w' ⟨rfl, rfl⟩)
        | (go_at_call 29; refine (HR2.out _).mono ?_; rintro e w' ⟨rfl, rfl⟩))
      go_ret
      exact ⟨rfl, B6.out⟩

end Go.Proofs.YtdilmefeofdkmaaGreatDoor

/-
  WHAT WAS READ AS DATA IS READ SO AGAIN, where nothing that was there has turned.
-/
namespace Go.Proofs.YtdilmefeofdkmaaGreatDoor
open Go.RowKit

theorem mapM_congr {α β : Type} {f g : α → Option β} : ∀ (l : List α) (r : List β), l.mapM f = some r → (∀ x ∈ l, ∀ y, f x = some y → y ∈ r → g x = some y) → l.mapM g = some r
  | [], r, h, _ => by simpa using h
  | a :: l, r, h, hg => by
    simp only [List.mapM_cons, Option.bind_eq_bind, Option.bind_eq_some_iff, Option.pure_def, Option.some.injEq] at h ⊢
    obtain ⟨b, hb, s, hs, rfl⟩ := h
    exact ⟨b, hg a List.mem_cons_self b hb List.mem_cons_self, s, mapM_congr l s hs (fun x hx y hy hm => hg x (List.mem_cons_of_mem _ hx) y hy (List.mem_cons_of_mem _ hm)), rfl⟩

theorem cells?_later {w w' : World} (hb : Below w.heap.size w w') {a : Addr} {n : Nat} {cs : List Value} (h : w.cells? 0 a n = some cs) : w'.cells? 0 a n = some cs := by
  unfold World.cells? at *
  simp only [Nat.zero_le, if_true] at *
  refine mapM_congr _ _ h (fun i _ y hy _ => ?_)
  have := World.block_lt_of_cell? w _ hy
  rw [hb.cell this]; exact hy

section
variable {H : Type} {enc : TypeId × Value → H} {P : Program} {w w' : World} {held : Bool}
theorem trod_later (hb : Below w.heap.size w w') (hz : ∀ t e, P.underlying t = some (.slice e) → 0 < P.cellsOf e) : ∀ (fuel : Nat) (t : TypeId) (cs : List Value) (x : DataW H × List MemPlace),
    DataW.trod enc P w 0 (fun _ => true) held fuel t cs = some x → ∀ sp : Nat → Bool, (∀ p ∈ x.2, sp p.block = true) → DataW.trod enc P w' 0 sp held fuel t cs = some x
  | 0, _, _, _, h, _, _ => by simp [DataW.trod] at h
  | fuel + 1, t, cs, x, h, sp, hsp => by
    have ih := trod_later hb hz fuel
    unfold DataW.trod at h ⊢
    split at h
    all_goals first | (simp_all; done) | skip
    case h_6 =>
      simp only [Option.map_eq_some_iff, Option.bind_eq_some_iff] at h ⊢
      obtain ⟨y, ⟨cs', h1, h2⟩, rfl⟩ := h
      exact ⟨y, ⟨cs', cells?_later hb h1, ih _ _ _ h2 sp (fun p hp => hsp p (List.mem_append_right _ hp))⟩, rfl⟩
    case h_8 t' cs' e a len cap hu =>
      dsimp only at h ⊢
      split at h
      · rename_i c
        rw [if_pos c]
        simp only [if_true] at h
        obtain ⟨elems, he, h⟩ := Option.bind_eq_some_iff.1 h
        obtain ⟨rest, hr, rfl⟩ := Option.map_eq_some_iff.1 h
        have hone : ∀ i y, ((w.cells? 0 (a.add (i * P.cellsOf e)) (P.cellsOf e)).bind (DataW.trod enc P w 0 (fun _ => true) held fuel e)) = some y → y ∈ elems ++ rest → ((w'.cells? 0 (a.add (i * P.cellsOf e)) (P.cellsOf e)).bind (DataW.trod enc P w' 0 sp held fuel e)) = some y := fun i y hy hm => by
          obtain ⟨c1, h1, h2⟩ := Option.bind_eq_some_iff.1 hy
          exact Option.bind_eq_some_iff.2 ⟨c1, cells?_later hb h1, ih _ _ _ h2 sp (fun p hp => hsp p (List.mem_append_right _ (List.mem_flatMap.2 ⟨y, hm, hp⟩)))⟩
        refine Option.bind_eq_some_iff.2 ⟨elems, mapM_congr _ _ he (fun i _ y hy hm => hone i y hy (List.mem_append_left _ hm)), ?_⟩
        by_cases hs : sp a.block = true
        · rw [if_pos hs]
          exact Option.map_eq_some_iff.2 ⟨rest, mapM_congr _ _ hr (fun i _ y hy hm => hone (len + i) y hy (List.mem_append_right _ hm)), rfl⟩
        · rw [if_neg hs]
          have h0 : rest = [] := by
            cases rest with
            | nil => rfl
            | cons r0 rs =>
              refine absurd (hsp (.cell a.block a.off) (List.mem_append_left _ ?_)) hs
              have hp := hz _ _ hu
              have hn : 0 < (elems.length + (r0 :: rs).length) * P.cellsOf e := Nat.mul_pos (by simp; omega) hp
              unfold MemPlace.row
              exact List.mem_map.2 ⟨0, List.mem_range.2 hn, by simp⟩
          subst h0
          rfl
      · cases h
    case h_9 =>
      split at h
      · rename_i c
        rw [if_pos c]
        obtain ⟨xs, hxs, rfl⟩ := Option.map_eq_some_iff.1 h
        exact Option.map_eq_some_iff.2 ⟨xs, mapM_congr _ _ hxs (fun f _ y hy hm => ih _ _ _ hy sp (fun p hp => hsp p (List.mem_flatMap.2 ⟨y, hm, hp⟩))), rfl⟩
      · cases h
    case h_10 =>
      split at h
      · rename_i c
        rw [if_pos c]
        obtain ⟨xs, hxs, rfl⟩ := Option.map_eq_some_iff.1 h
        exact Option.map_eq_some_iff.2 ⟨xs, mapM_congr _ _ hxs (fun f _ y hy hm => ih _ _ _ hy sp (fun p hp => hsp p (List.mem_flatMap.2 ⟨y, hm, hp⟩))), rfl⟩
      · cases h
    case h_12 =>
      split at h
      · exact h
      · obtain ⟨y, hy, rfl⟩ := Option.map_eq_some_iff.1 h
        exact Option.map_eq_some_iff.2 ⟨y, ih _ _ _ hy sp hsp, rfl⟩
      · cases h
    case h_14 =>
      split at h
      · rename_i b es clock hm
        have hlt : _ < w.heap.size := (Array.getElem?_eq_some_iff.1 hm).1
        rw [hb.block _ hlt, hm]
        dsimp only
        split at h
        · rename_i c
          rw [if_pos c]
          obtain ⟨entries, he, h⟩ := Option.bind_eq_some_iff.1 h
          dsimp only at h
          split at h
          · rename_i c2
            cases h
            refine Option.bind_eq_some_iff.2 ⟨entries, mapM_congr _ _ he (fun x _ y hy hm => ?_), by rw [if_pos c2]⟩
            obtain ⟨key, hk, hy⟩ := Option.bind_eq_some_iff.1 hy
            refine Option.bind_eq_some_iff.2 ⟨key, hk, ?_⟩
            split at hy
            · rename_i c3
              rw [if_pos c3]
              obtain ⟨z, hz', rfl⟩ := Option.map_eq_some_iff.1 hy
              exact Option.map_eq_some_iff.2 ⟨z, ih _ _ _ hz' sp (fun p hp => hsp p (List.mem_cons_of_mem _ (List.mem_flatMap.2 ⟨_, hm, hp⟩))), rfl⟩
            · cases hy
          · cases h
        · cases h
      · cases h

theorem trodAll_later (hb : Below w.heap.size w w') (hz : ∀ t e, P.underlying t = some (.slice e) → 0 < P.cellsOf e) : ∀ (ts : List TypeId) (vs : List Value) (ds : List (DataW H)) (ps : List MemPlace),
    DataW.TrodAll enc P w 0 (fun _ => true) held ts vs ds ps → ∀ sp : Nat → Bool, (∀ p ∈ ps, sp p.block = true) → DataW.TrodAll enc P w' 0 sp held ts vs ds ps
  | [], [], [], _, h, _, _ => h
  | t :: ts, v :: vs, d :: ds, ps, ⟨p, q, ⟨f, h1⟩, h2, h3⟩, sp, hsp => by
    subst h3
    exact ⟨p, q, ⟨f, trod_later hb hz f _ _ _ h1 sp (fun x hx => hsp x (List.mem_append_left _ hx))⟩, trodAll_later hb hz ts vs ds q h2 sp (fun x hx => hsp x (List.mem_append_right _ hx)), rfl⟩
end
end Go.Proofs.YtdilmefeofdkmaaGreatDoor
