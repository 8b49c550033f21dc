/-
  storehouseref22: leaf, days, one, around.
-/
import Derived.Test.YtnnfcbebjbfkoaaDoorRxNum
import Derived.Test.YtnnfcbebjbfkoaaDoorSm
import Derived.Test.YtnnfcbebjbfkoaaDoorCyTell2
namespace Go.Proofs.YtnnfcbebjbfkoaaDoor
open Go.RowKit Go.PlainAid

/-- a number of days is what the reference's number is, of at most five digits -/
theorem dayNum_value (s : ByteArray) (hs : s.size ≤ 5) : dayNum s = if valueL s.data.toList < 1 ∨ 36500 < valueL s.data.toList then 0 else valueL s.data.toList := by
  have hl : s.data.toList.length = s.size := by rw [Array.length_toList]; rfl
  unfold dayNum
  generalize s.data.toList = l at *
  have key : ∀ n : Nat, 1 ≤ n → n ≤ 36500 → (valueL l = (n : Int) ↔ Lib.decDigits n = l) := by
    intro n h1 h2
    constructor
    · intro h
      unfold valueL at h
      split at h
      · omega
      · rename_i hc
        have hne : l ≠ [] := fun e => hc (.inl e)
        split at h
        · omega
        · rename_i u hu
          obtain rfl : u = n := by omega
          exact decDigits_digs l.length l u rfl hne hu (by
            by_cases h1 : l.length = 1
            · exact .inl h1
            · right
              intro h48
              have hp := List.length_pos_iff.2 hne
              exact hc (.inr (.inr ⟨by omega, h48⟩)))
    · intro h
      have hd := digs_decDigits n
      have hh := decDigits_head n
      have hne := decDigits_ne n
      rw [h] at hd hh hne
      unfold valueL
      rw [if_neg, hd]
      rintro (h | h | ⟨h3, h4⟩)
      · exact hne h
      · omega
      · rcases hh with hh | hh
        · omega
        · exact hh h4
  by_cases hv : valueL l < 1 ∨ 36500 < valueL l
  · rw [if_pos hv]
    split
    · rename_i n hn
      split
      · rename_i hc
        simp only [Bool.and_eq_true, beq_iff_eq, decide_eq_true_eq] at hc
        obtain ⟨hc1, hc2, hc3⟩ := hc
        have := (key n.toNat (by omega) (by omega)).2 (by rw [← hc1, ← Lib.itoa_nonneg]; congr 1; omega)
        omega
      · rfl
    · rfl
  · rw [if_neg hv]
    obtain ⟨n, hn⟩ : ∃ n : Nat, valueL l = n := ⟨(valueL l).toNat, by omega⟩
    rw [hn] at hv ⊢
    have hd := (key n (by omega) (by omega)).1 hn
    have hat : Lib.atoiAll l = .ok (n : Int) := by
      rw [← hd]
      exact atoi_digs (decDigits_ne n) (digs_decDigits n) (by omega)
    rw [hat]
    simp only
    rw [if_pos]
    rw [Lib.itoa_nonneg, hd]
    simp; omega

set_option maxHeartbeats 400000 in
theorem rleaf_walk (n t : ByteArray) (a : Option Addr) (len c : Nat) (most : Int) (w : World) :
    Calls Tryd.prog 46 #[.agg #[.string n, .string t, .slice a len c], .int .i64 most] w fun e w' => e = .returned (.bool (len == 0 && decide ((t.size : Int) ≤ most))) ∧ Below w.heap.size w w' := by
  by_cases h : len = 0
  · subst h
    go_enter Tryd.func46, Tryd.ntmps46
    go_wp2
    go_ret
    exact ⟨by simp, (by repeat (first | exact Below.refl _ _ | assumption | (refine below_drewN ?_ _) | (refine Below.alloc ?_ (by first | (simp; done) | (simp; omega) | omega) _) | (refine Below.setCell ?_ (by first | (simp; done) | (simp; omega) | omega) _)))⟩
  · have h' : ((len : Int) == 0) = false := beq_eq_false_iff_ne.2 (by omega)
    go_enter Tryd.func46, Tryd.ntmps46
    go_wp2
    go_ret
    exact ⟨by simp [h], (by repeat (first | exact Below.refl _ _ | assumption | (refine below_drewN ?_ _) | (refine Below.alloc ?_ (by first | (simp; done) | (simp; omega) | omega) _) | (refine Below.setCell ?_ (by first | (simp; done) | (simp; omega) | omega) _)))⟩
theorem rleaf_any (t : Tree) (a : Option Addr) (c : Nat) (most : Int) (w : World) :
    Calls Tryd.prog 46 #[elemV t a c, .int .i64 most] w fun e w' => e = .returned (.bool (leafB t most)) ∧ Below w.heap.size w w' :=
  rleaf_walk _ _ _ _ _ _ _

def rdaysV (t kn kt name : ByteArray) (kl : Nat) : Int :=
  if t.toList.isEmpty && (kn.toList == name.toList) && kl == 0 then (if 5 < kt.size ∨ valueL kt.data.toList < 1 ∨ 36500 < valueL kt.data.toList then 0 else valueL kt.data.toList) else 0

set_option maxHeartbeats 1000000 in
theorem rdays_not1 (n t name : ByteArray) (a : Option Addr) (len c : Nat) (w : World) (h : len ≠ 1) :
    Calls Tryd.prog 47 #[.agg #[.string n, .string t, .slice a len c], .string name] w fun e w' => e = .returned (.int .i64 0) ∧ Below w.heap.size w w' := by
  have h' : ((len : Int) == 1) = false := beq_eq_false_iff_ne.2 (by omega)
  have h'' : ((len : Int) != 1) = true := by rw [bne_iff_ne]; omega
  clear h
  go_enter Tryd.func47, Tryd.ntmps47
  go_wp2
  all_goals
    go_ret
    exact ⟨rfl, (by repeat (first | exact Below.refl _ _ | assumption | (refine below_drewN ?_ _) | (refine Below.alloc ?_ (by first | (simp; done) | (simp; omega) | omega) _) | (refine Below.setCell ?_ (by first | (simp; done) | (simp; omega) | omega) _)))⟩

set_option maxHeartbeats 2000000 in
theorem rdays_one (n t name kn kt : ByteArray) (kl c b off c' : Nat) (a' : Option Addr) (w : World) (hkt : kt.size ≤ maxRead)
    (k0 : w.cell? ⟨b, off, none⟩ = some (.string kn)) (k1 : w.cell? ⟨b, off + 1, none⟩ = some (.string kt)) (k2 : w.cell? ⟨b, off + 2, none⟩ = some (.slice a' kl c')) :
    Calls Tryd.prog 47 #[.agg #[.string n, .string t, .slice (some ⟨b, off, none⟩) 1 c], .string name] w fun e w' => e = .returned (.int .i64 (rdaysV t kn kt name kl)) ∧ Below w.heap.size w w' := by
  have hb : b < w.heap.size := World.block_lt_of_cell? w _ k0
  have HV := Lib.hid (fun w => value_any kt w hkt)
  obtain ⟨V, hV⟩ : ∃ V, Hid (valueL kt.data.toList = V) := ⟨_, rfl⟩
  have E : Hid (rdaysV t kn kt name kl = if t.toList.isEmpty && (kn.toList == name.toList) && kl == 0 then (if 5 < kt.size ∨ V < 1 ∨ 36500 < V then 0 else V) else 0) := by show _ = _; unfold rdaysV; rw [hV.out]
  rw [hV.out] at HV
  rw [E.out]
  clear E hV
  by_cases ht : t.toList = []
  · cases hn : (kn.toList == name.toList)
    · have hn2 : (kn.toList != name.toList) = true := by rw [bne, hn]; rfl
      rw [if_neg (by simp)]
      go_enter Tryd.func47, Tryd.ntmps47
      go_wp2
      go_ret
      exact ⟨rfl, (by repeat (first | exact Below.refl _ _ | assumption | (refine below_drewN ?_ _) | (refine Below.alloc ?_ (by first | (simp; done) | (simp; omega) | omega) _) | (refine Below.setCell ?_ (by first | (simp; done) | (simp; omega) | omega) _)))⟩
    · have hn2 : (kn.toList != name.toList) = false := by rw [bne, hn]; rfl
      by_cases hk : 0 < kl
      · rw [if_neg (by simp; omega)]
        go_enter Tryd.func47, Tryd.ntmps47
        go_wp2
        go_ret
        exact ⟨rfl, (by repeat (first | exact Below.refl _ _ | assumption | (refine below_drewN ?_ _) | (refine Below.alloc ?_ (by first | (simp; done) | (simp; omega) | omega) _) | (refine Below.setCell ?_ (by first | (simp; done) | (simp; omega) | omega) _)))⟩
      · rw [ht, if_pos (by simp; omega)]
        obtain ⟨R, hR⟩ : ∃ R, Hid ((if 5 < kt.size ∨ V < 1 ∨ 36500 < V then 0 else V) = R) := ⟨_, rfl⟩
        rw [hR.out]
        go_enter Tryd.func47, Tryd.ntmps47
        go_wp2_with (go_at_call 59; refine (HV.out _).mono ?_; rintro e w' ⟨rfl, rfl⟩)
        all_goals
          go_ret
          exact ⟨ret_int' (by rw [← hR.out]; first | (rw [if_pos (by omega)]; done) | (rw [if_neg (by omega)]; done)), (by repeat (first | exact Below.refl _ _ | assumption | (refine below_drewN ?_ _) | (refine Below.alloc ?_ (by first | (simp; done) | (simp; omega) | omega) _) | (refine Below.setCell ?_ (by first | (simp; done) | (simp; omega) | omega) _)))⟩
  · have ht' : t.toList.isEmpty = false := by simpa using ht
    rw [if_neg (by rw [ht']; simp)]
    go_enter Tryd.func47, Tryd.ntmps47
    go_wp2
    go_ret
    exact ⟨rfl, (by repeat (first | exact Below.refl _ _ | assumption | (refine below_drewN ?_ _) | (refine Below.alloc ?_ (by first | (simp; done) | (simp; omega) | omega) _) | (refine Below.setCell ?_ (by first | (simp; done) | (simp; omega) | omega) _)))⟩

end Go.Proofs.YtnnfcbebjbfkoaaDoor
