/-
  SEVERAL SMALL TEXTS IN ONE.
-/
import Derived.Test.YtgmgghbocidibaaGreatDoorXwChar
import Derived.Test.YtgmgghbocidibaaGreatDoorSm8
import Derived.Test.YtgmgghbocidibaaGreatDoorXmRightW
/-
  The document's check of an element is the program's.
-/
namespace Go.Proofs.YtgmgghbocidibaaGreatDoor
open Go.RowKit Go.Lib Go.PlainAid

theorem plain_link (s : ByteArray) : ∀ (f i : Nat), plainTo s f i = plainD f (s.data.toList.drop i)
  | 0, _ => rfl
  | f + 1, i => by
    unfold plainTo plainD
    have hz : s.data.toList.length = s.size := by rw [Array.length_toList]; rfl
    by_cases h : s.size ≤ i
    · rw [if_pos h, if_pos (List.drop_eq_nil_of_le (by omega))]
    · rw [if_neg h, if_neg (c := s.data.toList.drop i = []) (by intro e; have := congrArg List.length e; simp only [List.length_drop, List.length_nil] at this; omega)]
      rcases char_link s i (by omega) with ⟨h1, h2⟩ | ⟨h1, h2, h3⟩
      · rw [if_pos h1, h2]; rfl
      · rw [if_neg (by omega), h2, Bool.true_and, plain_link s f, h1, List.drop_drop]
        rfl
theorem plainB_X (s : ByteArray) : plainB s = plainX s.data.toList := by
  unfold plainB plainX
  rw [plain_link, Array.length_toList]
  rfl
theorem first_link (x : UInt8) : firstB (x.toNat : Int) = firstX x := by
  have h : ∀ n : Fin 256, firstB ((UInt8.ofNat n).toNat : Int) = firstX (UInt8.ofNat n) := by decide +kernel
  have := h ⟨x.toNat, byte_lt x⟩
  simpa using this
theorem more_link (x : UInt8) : moreB (x.toNat : Int) = moreX x := by
  have h : ∀ n : Fin 256, moreB ((UInt8.ofNat n).toNat : Int) = moreX (UInt8.ofNat n) := by decide +kernel
  have := h ⟨x.toNat, byte_lt x⟩
  simpa using this
theorem nameTo_link (s : ByteArray) : ∀ (f i : Nat), nameTo s f i = ((s.data.toList.drop i).take f).all moreX
  | 0, _ => rfl
  | f + 1, i => by
    have hz : s.data.toList.length = s.size := by rw [Array.length_toList]; rfl
    unfold nameTo
    by_cases h : s.size ≤ i
    · rw [if_pos h, List.drop_eq_nil_of_le (by omega)]; rfl
    · have hi : i < s.data.toList.length := by omega
      rw [if_neg h, bt_get, more_link, nameTo_link s f, List.drop_eq_getElem_cons hi, List.take_succ_cons, List.all_cons, List.getD_eq_getElem?_getD, List.getElem?_eq_getElem hi]
      rfl
theorem nameB_link (s : ByteArray) : nameB s = (firstX (s.data.toList.headD 0) && (s.data.toList.drop 1).all moreX) := by
  unfold nameB
  rw [bt_get, first_link, nameTo_link, List.take_of_length_le (by rw [List.length_drop, Array.length_toList]; show s.size - 1 ≤ _; omega)]
  cases s.data.toList <;> rfl
theorem first_more (x : UInt8) (h : firstX x = true) : moreX x = true := by
  rw [← more_link]
  rw [← first_link] at h
  unfold moreB
  rw [h]
  rfl
theorem rightKs_link {ks : List Tree} (ih : ∀ k ∈ ks, ∀ (ar : Nat) (lf : Int), ar ≤ 20 → rightV k ar lf = rightX k ar lf) (ar : Nat) (har : ar ≤ 20) : ∀ lf : Int, rightKids ks ar lf = rightKsX ks ar lf := by
  induction ks with
  | nil => intro lf; rfl
  | cons k ks ihk =>
    intro lf
    unfold rightKids rightKsX
    rw [ih k (by simp) ar lf har]
    split
    · exact ihk (fun x hx => ih x (by simp [hx])) _
    · rfl
theorem rightV_no {n t : ByteArray} {ks : List Tree} {ar lf : Int} (h : 20 ≤ ar ∨ lf < 1 ∨ n.toList = [] ∨ 100 < n.size ∨ (0 < ks.length ∧ ¬ t.toList = [])) : rightV (.node n t ks) ar lf = (false, lf - 1) := by
  unfold rightV; exact if_pos h
theorem rightV_no2 {n t : ByteArray} {ks : List Tree} {ar lf : Int} (h : (nameB n && plainB t) = false) : rightV (.node n t ks) ar lf = (false, lf - 1) := by
  unfold rightV
  split
  · rfl
  · rw [if_neg (by rw [h]; decide)]
theorem rightV_yes {n t : ByteArray} {ks : List Tree} {ar lf : Int} (h : ¬ (20 ≤ ar ∨ lf < 1 ∨ n.toList = [] ∨ 100 < n.size ∨ (0 < ks.length ∧ ¬ t.toList = []))) (h2 : (nameB n && plainB t) = true) : rightV (.node n t ks) ar lf = rightKids ks (ar + 1) (lf - 1) := by
  unfold rightV
  rw [if_neg h, if_pos h2]
theorem right_link : ∀ (t : Tree) (ar : Nat) (lf : Int), ar ≤ 20 → rightV t ar lf = rightX t ar lf := by
  apply treeInd
  intro n t ks ih ar lf har
  obtain ⟨n, rfl⟩ : ∃ l : Bs, n = ⟨l.toArray⟩ := ⟨n.data.toList, by cases n; rfl⟩
  obtain ⟨t, rfl⟩ : ∃ l : Bs, t = ⟨l.toArray⟩ := ⟨t.data.toList, by cases t; rfl⟩
  have hz : (⟨n.toArray⟩ : ByteArray).size = n.length := by simp [ByteArray.size]
  have hn : (⟨n.toArray⟩ : ByteArray).toList = n := toList_data _
  have ht : (⟨t.toArray⟩ : ByteArray).toList = t := toList_data _
  have hpb : plainB ⟨t.toArray⟩ = plainX t := plainB_X _
  have hnb : nameB ⟨n.toArray⟩ = (firstX (n.headD 0) && (n.drop 1).all moreX) := nameB_link _
  by_cases h1 : 20 ≤ (ar : Int) ∨ lf < 1 ∨ n = [] ∨ 100 < n.length ∨ (0 < ks.length ∧ ¬ t = [])
  · rw [rightV_no (by rw [hn, ht, hz]; exact h1), rightX_no (by
      rcases h1 with h | h | h | h | h
      · exact .inr (.inl (by omega))
      · exact .inl h
      · exact .inr (.inr (.inl h))
      · exact .inr (.inr (.inr (.inl h)))
      · exact .inr (.inr (.inr (.inr (.inr h)))))]
  · by_cases hf : firstX (n.headD 0) = true
    · have hc : ¬ (lf < 1 ∨ ar = 20 ∨ n = [] ∨ 100 < n.length ∨ firstX (n.headD 0) = false ∨ (0 < ks.length ∧ t ≠ [])) := by
        rintro (h | h | h | h | h | h)
        · exact h1 (.inr (.inl h))
        · exact h1 (.inl (by omega))
        · exact h1 (.inr (.inr (.inl h)))
        · exact h1 (.inr (.inr (.inr (.inl h))))
        · rw [hf] at h; cases h
        · exact h1 (.inr (.inr (.inr (.inr h))))
      have hany : n.any (fun b => !moreX b) = !((n.drop 1).all moreX) := by
        cases n with
        | nil => rfl
        | cons x l =>
          rw [List.any_cons, first_more x hf]
          simp [List.any_eq_not_all_not]
      by_cases ha : (n.drop 1).all moreX = true
      · by_cases hp : plainX t = true
        · rw [rightV_yes (by rw [hn, ht, hz]; exact h1) (by rw [hnb, hpb, hf, ha, hp]; rfl), rightX_yes hc (by
            rintro (h | h)
            · rw [hany, ha] at h; cases h
            · rw [hp] at h; cases h)]
          exact rightKs_link ih (ar + 1) (by
            have h2 : ¬ 20 ≤ (ar : Int) := fun h => h1 (.inl h)
            omega) (lf - 1)
        · rw [rightV_no2 (by rw [hpb, Bool.eq_false_iff.2 hp, Bool.and_false]), rightX_no2 (.inr (Bool.eq_false_iff.2 hp))]
      · rw [rightV_no2 (by rw [hnb, Bool.eq_false_iff.2 ha, Bool.and_false, Bool.false_and]), rightX_no2 (.inl (by rw [hany, Bool.eq_false_iff.2 ha]; rfl))]
    · rw [rightV_no2 (by rw [hnb, Bool.eq_false_iff.2 hf, Bool.false_and, Bool.false_and]), rightX_no (.inr (.inr (.inr (.inr (.inl (Bool.eq_false_iff.2 hf))))))]
end Go.Proofs.YtgmgghbocidibaaGreatDoor

/-
  xml.isRight, same, Same.
-/
namespace Go.Proofs.YtgmgghbocidibaaGreatDoor
open Go.RowKit Go.Lib

/-- an element that is read -/
def ElemIn (w : World) (t : Tree) (a : Option Addr) (c : Nat) : Prop := TreeIn w t (.string t.name) (.string t.text) (.slice a t.kids.length c)
theorem ElemIn.later {w w' : World} {t : Tree} {a : Option Addr} {c : Nat} (h : ElemIn w t a c) (hb : Below w.heap.size w w') : ElemIn w' t a c := TreeIn.later hb _ _ _ _ h
/-- what the variables hold, as far as characters want it -/
structure GlobC (w : World) : Prop where
  size : 8 ≤ w.heap.size
  tabs : Tabs w
theorem GlobC.later {w w' : World} (h : GlobC w) (hb : Below w.heap.size w w') : GlobC w' := ⟨Nat.le_trans h.size hb.size, h.tabs.later hb⟩
def elC (t : Tree) (a : Option Addr) (c : Nat) : Array Value := #[.string t.name, .string t.text, .slice a t.kids.length c]
def okT (t : Tree) : Bool := (rightX t 0 20000).1
structure Box1 (w W : World) (es : Array Value) : Prop where
  box : W.heap[w.heap.size]? = some (.cells es 24 (0, 0))
  below : Below w.heap.size w W

set_option maxHeartbeats 4000000 in
set_option maxRecDepth 100000 in
theorem isRight_any (t : Tree) (a : Option Addr) (c : Nat) (w : World) (h : ElemIn w t a c) (hG : GlobC w) :
    Calls Tryz.prog 22 #[.agg (elC t a c)] w fun e w' => e = .returned (.bool (okT t)) ∧ Below w.heap.size w w' := by
  have HT := Lib.hid h
  have HG := Lib.hid hG
  clear h hG
  unfold elC
  obtain ⟨W0, hw0⟩ : ∃ W0, w.alloc (.cells #[.string t.name, .string t.text, .slice a t.kids.length c] 24) = W0 := ⟨_, rfl⟩
  have B0 : Below w.heap.size w W0 := by rw [← hw0]; exact below_alloc (Below.refl _ _) (Nat.le_refl _) _
  have X0 : Hid (W0.heap[w.heap.size]? = some (.cells (elC t a c) 24 (0, 0))) := by show _ = _; rw [← hw0]; exact heap_alloc_new _ _
  have HB0 := Lib.hid B0
  go_enter Tryz.func22, Tryz.ntmps22
  go_upto_region 2 with (refine wpList_store_cellN (by rfl) 3 _ _ (by rfl) W0.heap.size 0 (.int .i64 20000) (by rfl) (by rfl) (by rfl) 3 #[.int .i64 0] (by exact heap_alloc_new _ _) (by exact Nat.le_of_ble_eq_true rfl) (by kernel_rfl) (fun W => LeftAt W W0.heap.size 20000 ∧ Below W0.heap.size W0 W) (by exact ⟨setRow_heap _ _ _ _ _ _ (heap_alloc_new _ _), below_one_row _ _ _ _ _ (below_alloc (Below.refl _ _) (Nat.le_refl _) _) (Nat.le_refl _)⟩) ?_; clear hw0; rintro W1 hW1)
  have HL1 := Lib.hid hW1.1
  have HB1 := Lib.hid hW1.2
  have X1 : Hid (W1.heap[w.heap.size]? = some (.cells (elC t a c) 24 (0, 0))) := (hW1.2.block _ (Array.getElem?_eq_some_iff.1 X0.out).1).trans X0.out
  have hs0 := B0.size
  have B01 := Lib.hid (HB0.out.trans (HB1.out.mono HB0.out.size))
  clear hW1
  generalize hgl : W0.heap.size = gl at *
  go_wp2_with (refine wpList_load_row (by rfl) 24 _ (by rfl) w.heap.size (by rfl) 24 (elC t a c) (0, 0) _ (by exact X1.out) Tryz.underlying24 rfl (by kernel_rfl) ?_)
  refine (right_any t a c 0 20000 gl W1 (HT.out.later B01.out) HL1.out (HG.out.later B01.out).tabs (Nat.le_trans HG.out.size hs0) (by omega) (by omega) (by omega)).mono ?_
  rintro e W2 ⟨rfl, -, hc⟩
  have HE : Hid (Below w.heap.size w W2) := B01.out.trans (hc.below B01.out.size (fun k hk => by omega))
  clear hc
  go_wp2_with fail
  go_ret
  exact ⟨rfl, HE.out⟩

/-! ### the same -/
mutual
def sameX : Tree → Tree → Bool
  | .node n t ks, .node n' t' ks' => (n.data.toList == n'.data.toList) && (t.data.toList == t'.data.toList) && sameKs ks ks'
def sameKs : List Tree → List Tree → Bool
  | [], [] => true
  | k :: ks, k' :: ks' => sameX k k' && sameKs ks ks'
  | _, _ => false
end
theorem sameKs_at {ks ks' : List Tree} {i : Nat} {k k' : Tree} (h : ks[i]? = some k) (h' : ks'[i]? = some k') : sameKs (ks.drop i) (ks'.drop i) = (sameX k k' && sameKs (ks.drop (i + 1)) (ks'.drop (i + 1))) := by
  rw [List.drop_eq_getElem_cons (List.getElem?_eq_some_iff.1 h).1, (List.getElem?_eq_some_iff.1 h).2, List.drop_eq_getElem_cons (List.getElem?_eq_some_iff.1 h').1, (List.getElem?_eq_some_iff.1 h').2]
  rfl
theorem sameKs_len : ∀ {ks ks' : List Tree}, ks.length ≠ ks'.length → sameKs ks ks' = false
  | [], [], h => absurd rfl h
  | [], _ :: _, _ => rfl
  | _ :: _, [], _ => rfl
  | k :: ks, k' :: ks', h => by
    unfold sameKs
    rw [sameKs_len (fun e => h (by simp [e])), Bool.and_false]
def SameC (t : Tree) : Prop := ∀ (t' : Tree) (a a' : Option Addr) (c c' : Nat) (w : World), ElemIn w t a c → ElemIn w t' a' c' →
  Calls Tryz.prog 31 #[.agg (elC t a c), .agg (elC t' a' c')] w fun e w' => e = .returned (.bool (sameX t t')) ∧ Below w.heap.size w w'
theorem kid_range {w : World} {a : Option Addr} {ks : List Tree} {i : Nat} {k : Tree} (h : KidsIn w ks a 0) (hi : ks[i]? = some k) : ∃ b off a2 c2, a = some ⟨b, off, none⟩ ∧ w.rangeAt b (off + i * 3) [.string k.name, .string k.text, .slice a2 k.kids.length c2] ∧ ElemIn w k a2 c2 := by
  obtain ⟨b, off, a2, c2, rfl, q0, q1, q2, _, _, _, _, hkT⟩ := h.kid hi
  refine ⟨b, off, a2, c2, rfl, fun j u hu => ?_, hkT⟩
  rcases j with _ | _ | _ | j
  · injection hu with hu; subst hu; exact q0
  · injection hu with hu; subst hu; exact q1
  · injection hu with hu; subst hu; exact q2
  · simp at hu

set_option maxHeartbeats 4000000 in
set_option maxRecDepth 100000 in
theorem equalKs_any {ks ks' : List Tree} (ih : ∀ k ∈ ks, SameC k) (a a' : Option Addr) (c c' : Nat) (w : World) (h : KidsIn w ks a 0) (h' : KidsIn w ks' a' 0) (hl : ks.length ≤ 2513169434843) (hl' : ks'.length ≤ 2513169434843) :
    Calls Tryz.prog 43 #[.slice a ks.length c, .slice a' ks'.length c', .func (.func 31) #[] #[]] w fun e w' => e = .returned (.bool (sameKs ks ks')) ∧ Below w.heap.size w w' := by
  have HK := Lib.hid h
  have HK' := Lib.hid h'
  have HIH := Lib.hid ih
  clear h h' ih
  go_enter Tryz.func43, Tryz.ntmps43
  by_cases hle : ks.length = ks'.length
  · have HLE := Lib.hid hle
    rw [← hle] at hl' ⊢
    clear hle
    go_wp2_with fail
    go_loopg [17] ks.length (fun gg s17 wr => ∃ i : Nat, i ≤ ks.length ∧ ks.length - i ≤ gg ∧ s17 = .int .i64 i ∧ Hid (Below w.heap.size w wr) ∧ Hid (sameKs ks ks' = sameKs (ks.drop i) (ks'.drop i)))
    case atStart => exact ⟨0, Nat.zero_le _, by omega, rfl, Below.refl _ _, rfl⟩
    case round =>
      obtain ⟨i, hi, hg, rfl, HB, HS⟩ := hrel
      by_cases hlt : i < ks.length
      · have hiz : (i : Int) < (ks.length : Int) := by omega
        obtain ⟨k, hik⟩ : ∃ k, ks[i]? = some k := ⟨_, List.getElem?_eq_getElem hlt⟩
        obtain ⟨k', hik'⟩ : ∃ k, ks'[i]? = some k := ⟨_, List.getElem?_eq_getElem (by rw [← HLE.out]; exact hlt)⟩
        obtain ⟨b, o, a2, c2, rfl, hr, he⟩ := kid_range (KidsIn.later HB.out _ _ _ HK.out) hik
        obtain ⟨b', o', a2', c2', rfl, hr', he'⟩ := kid_range (KidsIn.later HB.out _ _ _ HK'.out) hik'
        have HSC := Lib.hid (HIH.out k (List.mem_of_getElem? hik))
        have HSK := Lib.hid (sameKs_at hik hik')
        have HR := Lib.hid hr
        have HR' := Lib.hid hr'
        have HE := Lib.hid he
        have HE' := Lib.hid he'
        clear hr hr' he he' hik hik'
        go_upto_region 6 with (first
          | (refine wpList_load_mid (by rfl) 24 _ (by rfl) b (o + i * 3) (by rfl) [.string k.name, .string k.text, .slice a2 k.kids.length c2] _ HR.out Tryz.underlying24 rfl (by kernel_rfl) ?_)
          | (refine wpList_store_rowN (by rfl) 24 _ _ (by rfl) wr.heap.size (elC k a2 c2) (by rfl) (by rfl) 24 elemZC (by exact heap_alloc_new _ _) (by kernel_rfl) (by rfl) (by kernel_rfl) (fun W => W.heap[wr.heap.size]? = some (.cells (elC k a2 c2) 24 (0, 0)) ∧ Below wr.heap.size wr W) (by rw [setRow_alloc _ _ _ _ _ rfl]; exact ⟨heap_alloc_new _ _, below_alloc (Below.refl _ _) (Nat.le_refl _) _⟩) ?_; rintro W1 h1))
        have X1 := Lib.hid h1.1
        have B1 := Lib.hid h1.2
        have HR1' : Hid (W1.rangeAt b' (o' + i * 3) [.string k'.name, .string k'.text, .slice a2' k'.kids.length c2']) := fun j u hu => cell_later h1.2 (HR'.out j u hu)
        generalize hg8 : wr.heap.size = g8 at *
        have hlt1 := (Array.getElem?_eq_some_iff.1 X1.out).1
        clear h1 HR HR'
        go_upto_region 7 with (first
          | (refine wpList_load_mid (by rfl) 24 _ (by rfl) b' (o' + i * 3) (by rfl) [.string k'.name, .string k'.text, .slice a2' k'.kids.length c2'] _ HR1'.out Tryz.underlying24 rfl (by kernel_rfl) ?_)
          | (refine wpList_store_rowN (by rfl) 24 _ _ (by rfl) W1.heap.size (elC k' a2' c2') (by rfl) (by rfl) 24 elemZC (by exact heap_alloc_new _ _) (by kernel_rfl) (by rfl) (by kernel_rfl) (fun W => W.heap[W1.heap.size]? = some (.cells (elC k' a2' c2') 24 (0, 0)) ∧ Below W1.heap.size W1 W) (by rw [setRow_alloc _ _ _ _ _ rfl]; exact ⟨heap_alloc_new _ _, below_alloc (Below.refl _ _) (Nat.le_refl _) _⟩) ?_; rintro W2 h2))
        have X2 := Lib.hid h2.1
        have X1 : Hid (W2.heap[g8]? = some (.cells (elC k a2 c2) 24 (0, 0))) := (h2.2.block _ hlt1).trans X1.out
        have B2 : Hid (Below g8 wr W2) := B1.out.trans (h2.2.mono (Nat.le_of_lt hlt1))
        generalize W1.heap.size = g9 at *
        clear h2 B1 HR1'
        go_wp2_with (first
          | (refine wpList_load_row (by rfl) 24 _ (by rfl) g8 (by rfl) 24 (elC k a2 c2) (0, 0) _ (by exact X1.out) Tryz.underlying24 rfl (by kernel_rfl) ?_)
          | (refine wpList_load_row (by rfl) 24 _ (by rfl) g9 (by rfl) 24 (elC k' a2' c2') (0, 0) _ (by exact X2.out) Tryz.underlying24 rfl (by kernel_rfl) ?_))
        refine (HSC.out k' a2 a2' c2 c2' W2 (HE.out.later (by rw [hg8]; exact B2.out)) (HE'.out.later (by rw [hg8]; exact B2.out))).mono ?_
        rintro e W3 ⟨rfl, hb3⟩
        have HB3 : Hid (Below w.heap.size w W3) := by
          have h1 := HB.out.trans (B2.out.mono (by rw [← hg8]; exact HB.out.size))
          exact h1.trans (hb3.mono h1.size)
        clear hb3
        cases hsk : sameX k k' with
        | false =>
          have HF : Hid (sameKs ks ks' = false) := by show _ = _; rw [HS.out, HSK.out, hsk]; rfl
          go_wp2_with fail
          go_ret
          exact ⟨by rw [HF.out]; rfl, HB3.out⟩
        | true =>
          have HF : Hid (sameKs ks ks' = sameKs (ks.drop (i + 1)) (ks'.drop (i + 1))) := by show _ = _; rw [HS.out, HSK.out, hsk]; rfl
          clear hsk HS HSK
          go_wp2_with fail
          go_roundg (ks.length - (i + 1))
          case measure => omega
          case rel => exact ⟨i + 1, by omega, Nat.le_refl _, by go_num, HB3.out, HF.out⟩
      · obtain rfl : i = ks.length := by omega
        have HF : Hid (sameKs ks ks' = true) := by
          show _ = _
          rw [HS.out, List.drop_length, HLE.out, List.drop_length]
          rfl
        go_wp2_with fail
        go_ret
        exact ⟨by rw [HF.out]; rfl, HB.out⟩
  · have hlz : ¬ (ks.length : Int) = (ks'.length : Int) := by omega
    have HF := Lib.hid (sameKs_len hle)
    go_wp2_with fail
    go_ret
    exact ⟨by rw [HF.out]; rfl, Below.refl _ _⟩
end Go.Proofs.YtgmgghbocidibaaGreatDoor
