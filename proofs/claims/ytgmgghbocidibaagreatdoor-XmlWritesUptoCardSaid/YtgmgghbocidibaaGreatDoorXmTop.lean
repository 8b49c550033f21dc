/-
  xml's reader: what within needs besides: the innermost element is written to; end where something was wrong.
-/
import Derived.Test.YtgmgghbocidibaaGreatDoorXmEnd
namespace Go.Proofs.YtgmgghbocidibaaGreatDoor
open Go.RowKit Go.Lib Go.PlainAid

theorem Chg.lt_ne {w : World} {k : Nat} {cs : Array Value} {t : TypeId} {f : Nat × Nat} (h : w.heap[k]? = some (.cells cs t f)) : k < w.heap.size := (Array.getElem?_eq_some_iff.1 h).1
/-- the innermost element was written to -/
theorem Pile.top {w w' : World} {b B g : Nat} {S : ByteArray} {r : Bs} {pv kv v v' : Value} {o o' : Opn} {ps : List Opn} {gs : List Nat} (h : Pile w b B pv (o :: ps) (g :: gs)) (hr : RdAt w b S r pv) (ho : OpIn w o g w.heap.size kv v) (hc : Chg w w' (fun k => k = b ∨ k = g ∨ some k = v.ownBlock))
    (hb : BdAt w' g (Bs.str o'.name) kv o'.solid o'.text v') (hk : o'.kids = o.kids) (he : o'.text = [] → v' = .slice none 0 0) : Pile w' b B pv (o' :: ps) (g :: gs) := by
  obtain ⟨ad, hbx, _⟩ := ho.bd.box
  refine ⟨?_, ⟨⟨kv, v', hb, ?_, ?_, fun k hk => (hb.own.lt k hk).2, he⟩, ?_⟩, h.far, h.low, Nat.le_trans h.hi hc.size⟩
  · refine own_keep h.row fun k hk => hc.block k (h.row.lt k hk).2 (fun hm => ?_)
    obtain ⟨h1, cs, hkt⟩ := h.pv_type hk
    rcases hm with e | e | e
    · have := h.low; omega
    · rw [e] at hkt
      exact absurd (type_eq hkt hbx) (by decide)
    · obtain ⟨cs', hv⟩ := own_type ho.bd.own e.symm
      exact absurd (type_eq hkt hv) (by decide)
  · rw [hk]
    refine ho.kids.kept hc.size fun k _ _ hE => hc.block k hE.lt (fun hm => ?_)
    rcases hm with e | e | e
    · subst e; exact hr.not_isP hE.isP
    · exact isE_not_open hbx (by decide) hE e
    · exact isE_not_buf ho.bd.own hE e
  · have h1 := ho.top
    have h2 := hc.size
    omega
  · refine h.at_.2.kept (Nat.le_refl _) fun k hk hP => ?_
    have hP2 := hP
    obtain ⟨cs, t, e, _⟩ := hP
    refine hc.block k (Array.getElem?_eq_some_iff.1 e).1 (fun hm => ?_)
    rcases hm with e | e | e
    · subst e; exact hr.not_isP hP2
    · omega
    · have := (ho.bd.own.lt k e.symm).1
      omega
theorem ref_ne {r t r1 : Bs} (h : refL r = .ok (t, r1)) : t ≠ [] := by
  have hnum : ∀ {hd : Bs} {base most : Nat}, numL hd base most r = .inl (t, r1) → t ≠ [] := by
    intro hd base most h
    unfold numL at h
    split at h
    · simp only at h
      split at h
      · cases h
      · split at h
        · rename_i h1
          injection h with h
          simp only [Prod.mk.injEq] at h
          obtain ⟨e1, _⟩ := h
          rw [← e1]
          exact (decode_enc h1.2.2).2
        · cases h
    · cases h
  unfold refL at h
  split at h
  · rename_i x hx
    injection h with h
    simp only [Prod.mk.injEq] at h
    obtain ⟨e1, _⟩ := h
    have h2 := (names_len x (List.mem_of_find?_eq_some hx)).2.1
    rw [← e1]
    intro e
    rw [e] at h2
    cases h2
  · simp only at h
    split at h
    · rename_i x hx
      injection h with h
      subst h
      exact hnum hx
    · split at h
      · rename_i x hx
        injection h with h
        subst h
        exact hnum hx
      · cases h
set_option maxHeartbeats 2000000 in
set_option maxRecDepth 100000 in
theorem end_bad {w : World} {b : Nat} {S : ByteArray} {c : Int} {k : Nat} {pv : Value} (h : RdBad w b S c k pv) :
    Calls Tryz.prog 62 #[.pointer (some ⟨b, 0, none⟩)] w fun e w' => e = .returned (.tuple #[]) ∧ w' = w := by
  obtain ⟨g, q2⟩ := RdBad.bad h
  clear h
  go_enter Tryz.func62, Tryz.ntmps62
  go_wp2_with fail
  refine bodyPost_ret (results_none rfl _ _ _) rfl ?_
  exact ⟨rfl, rfl⟩
/-- end, whatever is open -/
theorem end_any {w : World} {b B : Nat} {S : ByteArray} {r : Bs} {ps : List Opn} (h : Mach w b B S r ps) (hne : ps ≠ []) (hO : StackOK ps) (hW : stackW ps ≤ 48000) :
    Calls Tryz.prog 62 #[.pointer (some ⟨b, 0, none⟩)] w (EndOut b B S r ps w) := by
  match ps, h, hne, hO, hW with
  | [o], h, _, _, _ => exact end_one h
  | o :: a :: ps, h, _, hO, hW =>
    simp only [stackW] at hW
    have h1 := opn_small hO.1 (by omega)
    have h2 := opn_small hO.2.1 (by omega)
    have h3 := hO.2.1.1
    exact end_two h (by omega) h1.1 h1.2.1 h1.2.2 h2.2.2
theorem decode_head {b : UInt8} {x : Bs} : decide ((decodeL (b :: x)).1 ≤ 127) = decide (b.toNat < 128) := by
  by_cases h : b.toNat < 128
  · rw [decode_small (l := b :: x) (by simp) h]
    simp only [List.getD_cons_zero, decide_eq_decide]
    omega
  · rw [decide_eq_false h, decide_eq_false_iff_not]
    intro h2
    rw [decodeL_N] at h2
    rcases decodeN_shape (b :: x).length ((b :: x).getD 0 0).toNat ((b :: x).getD 1 0).toNat ((b :: x).getD 2 0).toNat ((b :: x).getD 3 0).toNat with ⟨c, e⟩ | ⟨c1, c2, c3, cv, e⟩ | ⟨c1, c2, c3, c4, cv, cs, e⟩ | ⟨c1, c2, c3, c4, c5, cv, cw, e⟩ | e
    · exact h c
    · rw [e] at h2; simp only at h2; omega
    · rw [e] at h2; simp only at h2; omega
    · rw [e] at h2; simp only at h2; omega
    · rw [e] at h2; simp only at h2; omega
theorem decode_max (l : Bs) : (decodeL l).1 ≤ 1114111 := by
  rw [decodeL_N]
  have := (l.getD 0 0).toNat_lt
  rcases decodeN_shape l.length (l.getD 0 0).toNat (l.getD 1 0).toNat (l.getD 2 0).toNat (l.getD 3 0).toNat with ⟨c, e⟩ | ⟨c1, c2, c3, cv, e⟩ | ⟨c1, c2, c3, c4, cv, cs, e⟩ | ⟨c1, c2, c3, c4, c5, cv, cw, e⟩ | e
  all_goals (rw [e]; simp only; omega)
end Go.Proofs.YtgmgghbocidibaaGreatDoor
