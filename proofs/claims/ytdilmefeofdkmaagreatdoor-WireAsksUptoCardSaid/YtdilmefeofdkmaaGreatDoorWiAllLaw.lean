/-
  storehouselaw16.all: what a Reader tells of some pieces.
-/
import Derived.Test.YtdilmefeofdkmaaGreatDoorWiNew
import Derived.Deep.Upon
namespace Go.Proofs.YtdilmefeofdkmaaGreatDoor
open Go.RowKit

def strRows (l : List (List UInt8)) : List (List Value) := l.map fun t => [.string ⟨t.toArray⟩]
theorem strRows_len (l : List (List UInt8)) : (strRows l).length = l.length := by simp [strRows]
theorem SlAt.at_str {w : World} {v : Value} {l : List (List UInt8)} (h : SlAt w 1 v (strRows l)) : ∃ a c, v = .slice a l.length c ∧ ∀ i x, l[i]? = some x → ∃ b off, a = some ⟨b, off, none⟩ ∧ w.cell? ⟨b, off + i, none⟩ = some (.string ⟨x.toArray⟩) := by
  obtain ⟨a, c, rfl, _, hc⟩ := h
  refine ⟨a, c, by rw [strRows_len], fun i t ht => ?_⟩
  obtain ⟨b, off, hb, hu⟩ := hc i [.string ⟨t.toArray⟩] (by simp [strRows, ht])
  exact ⟨b, off, hb, by have := hu 0 _ rfl; simpa using this⟩

def Tag (w : World) (e : TypeId) (b : Nat) : Prop := ∃ cur, w.heap[b]? = some (.cells cur e (0, 0))
theorem ownsRow_tag {w : World} {base : Nat} {e : TypeId} {sz : Nat} {v : Value} {n : Nat} {xs : List Value} (h : w.ownsRow base e sz v n xs) {b : Nat} (hb : v.ownBlock = some b) : Tag w e b := by
  rcases h.2 with ⟨rfl, _⟩ | ⟨g, cap, cur, rfl, _, hg, _⟩
  · cases hb
  · injection hb with e1
    subst e1
    exact ⟨cur, hg⟩
theorem ReqRows.tag {w : World} {ok : Nat → Prop} : ∀ {qs : List ReqV} {xs : List Value}, ReqRows w ok qs xs → ReqRows w (fun b => ok b ∧ Tag w 58 b) qs xs
  | [], _, h => h
  | _ :: _, _, ⟨v, r, h1, h2, h3, h4⟩ => ⟨v, r, h1, h2, fun b hb => ⟨h3 b hb, ownsRow_tag h2 hb⟩, ReqRows.tag h4⟩
theorem ReqRows.oneCell {w : World} {ok : Nat → Prop} : ∀ {qs : List ReqV} {xs : List Value}, ReqRows w ok qs xs → ∀ u ∈ xs, u.oneCell' = true
  | [], _, h, u, hu => by subst h; cases hu
  | _ :: _, _, ⟨v, r, h1, h2, h3, h4⟩, u, hu => by
    subst h1
    obtain ⟨a, c, rfl⟩ := row_form h2
    simp only [List.mem_cons] at hu
    rcases hu with rfl | rfl | rfl | rfl | rfl | rfl | hu
    · rfl
    · rfl
    · rfl
    · rfl
    · rfl
    · rfl
    · exact ReqRows.oneCell h4 u hu
theorem rowB_kept {w w' : World} {base : Nat} {e : TypeId} {sz : Nat} {v : Value} {n : Nat} {xs : List Value} (h : w.ownsRow base e sz v n xs) (hk : ∀ g, v.ownBlock = some g → g < w.heap.size → w'.heap[g]? = w.heap[g]?) : w'.ownsRow base e sz v n xs := by
  refine ⟨h.1, ?_⟩
  rcases h.2 with h1 | ⟨g, cap, cur, hv, hg, hh, r⟩
  · exact .inl h1
  · exact .inr ⟨g, cap, cur, hv, hg, by rw [hk g (by rw [hv]; rfl) (Array.getElem?_eq_some_iff.1 hh).1]; exact hh, r⟩
theorem rowB_form {w : World} {base : Nat} {e : TypeId} {sz : Nat} {v : Value} {n : Nat} {xs : List Value} (h : w.ownsRow base e sz v n xs) : ∃ a c, v = .slice a n c := by
  rcases h.2 with ⟨rfl, rfl⟩ | ⟨g, cap, cur, hv, _⟩
  · exact ⟨_, _, rfl⟩
  · exact ⟨_, _, hv⟩

section
variable {P : Program} {w : World}
theorem wpList_append_nothing {ops : Array Oper} {rest : List Oper} {o : Oper} {a : Act} {Q : Exit → Act → World → Prop} (hgd : o.guard = none) (s x : Operand) (t : TypeId)
    (ho : o.op = .call { callee := .builtin .append, args := #[s, x], argTypes := #[t, t] })
    (e : TypeId) (i : TypeInfo) (ht : P.underlying t = some (.slice e)) (hi : P.info? e = some i) (size : Nat) (hsz : i.size = size)
    (base : Option Addr) (sLen sCap : Nat) (hle : sLen ≤ sCap) (xv : Value) (hs : a.eval s = .slice base sLen sCap) (hx : a.eval x = xv) (hsrc : Src P size t xv 0 [] w)
    (h : wpList P ops Q rest (a.put o.dst (.slice base sLen sCap)) w) : wpList P ops Q (o :: rest) a w :=
  wpList_plain hgd fun K hK => by
    subst hsz
    have hr := run_append_nothing w t t o.type e i ht hi base sLen sCap hle xv hsrc
    unfold Oper.wp execOp
    simp only [ho, resolve, invoke, builtin, Sem.run_bind, Sem.run_pure, Result.andThen_ok, List.map_toArray, List.map_cons, List.map_nil, hs, hx, hr]
    exact hK _ _ h
end

/-- while the pieces are fed: rd the Reader, vo what has been told -/
structure AllAt (w wr : World) (ms : Own) (s : RS) (qs : List ReqV) (vo : Value) (N : Nat) : Prop where
  rdr : RdrAt wr w.heap.size ms s []
  wf : WF N s
  len : qs.length ≤ N
  out : ∃ xs ok, wr.ownsRow w.heap.size 31 6 vo qs.length xs ∧ ReqRows wr ok qs xs ∧ ∀ b, ok b → b < wr.heap.size ∧ ¬ ms b ∧ Tag wr 58 b
  vo : ∀ b, vo.ownBlock = some b → ¬ ms b
  bel : Below w.heap.size w wr
  msl : ∀ b, ms b → w.heap.size ≤ b

/-- nothing was told -/
theorem AllAt.quiet {w wr w2 : World} {ms ms2 : Own} {s s2 : RS} {qs : List ReqV} {vo : Value} {N M : Nat} (h : AllAt w wr ms s qs vo N) (hr : RdrAt w2 w.heap.size ms2 s2 []) (hm : Mv wr w2 ms ms2) (hw : WF M s2) (hM : N ≤ M) : AllAt w w2 ms2 s2 qs vo M := by
  obtain ⟨xs, ok, h1, h2, h3⟩ := h.out
  have hms : ∀ b, b < wr.heap.size → ¬ ms b → ¬ ms2 b := fun b hb hn h2 => by
    rcases hm.new b h2 with h4 | h4
    · exact hn h4
    · omega
  refine ⟨hr, hw, Nat.le_trans h.len hM, ⟨xs, ok, rowB_kept h1 fun g hg hl => hm.chg.block g hl (h.vo g hg), h2.kept (fun b hl hob => hm.chg.block b hl (h3 b hob).2.1) (fun _ _ x => x), fun b hb => ?_⟩, fun b hb => hms b (h1.lt b hb).2 (h.vo b hb), h.bel.trans (hm.below h.bel.size h.msl), fun b hb => ?_⟩
  · obtain ⟨k1, k2, cur, k3⟩ := h3 b hb
    exact ⟨Nat.lt_of_lt_of_le k1 hm.chg.size, hms b k1 k2, cur, (hm.chg.block b k1 k2).trans k3⟩
  · rcases hm.new b hb with h4 | h4
    · exact h.msl b h4
    · exact Nat.le_trans h.bel.size h4
/-- some were told, and appended -/
theorem AllAt.more {w w2 w3 : World} {ms : Own} {s : RS} {qs qs2 : List ReqV} {vo : Value} {N g n cap : Nat} {xs xs2 : List Value} {ok K : Nat → Prop} (h : AllAt w w2 ms s qs vo N) (hx : w2.ownsRow w.heap.size 31 6 vo qs.length xs) (hr : ReqRows w2 ok qs xs) (hok : ∀ b, ok b → b < w2.heap.size ∧ ¬ ms b ∧ Tag w2 58 b)
    (hr2 : ReqRows w2 K qs2 xs2) (hK : ∀ b, K b → b < w2.heap.size ∧ ¬ ms b) (hn : n = (qs ++ qs2).length) (hl : (qs ++ qs2).length ≤ N)
    (hown : w3.ownsRow w.heap.size 31 6 (.slice (some ⟨g, 0, none⟩) n cap) n (xs ++ xs2)) (hgr : w2.grownBy w3 vo.ownBlock) (hat : vo.ownBlock = some g ∨ g = w2.heap.size) (hGB : 8 ≤ w.heap.size) :
    AllAt w w3 ms s (qs ++ qs2) (.slice (some ⟨g, 0, none⟩) n cap) N := by
  have htag : ∀ b, Tag w2 58 b → some b ≠ vo.ownBlock := fun b ht e => by
    obtain ⟨c1, e1⟩ := ht
    obtain ⟨c2, e2⟩ := ownsRow_tag hx e.symm
    rw [e1] at e2
    injection e2 with e2
    injection e2 with _ e2 _
    cases e2
  have hvo := h.vo
  obtain ⟨v1, v2, v3, v4, hI⟩ := h.rdr
  have hmsv : ∀ b, ms b → ¬ some b = vo.ownBlock := fun b hb e => hvo b e.symm hb
  have hmg : ¬ ms g := fun hm => by
    rcases hat with e | e
    · exact hvo g e hm
    · have := (hI.low g hm).2; omega
  refine ⟨⟨v1, v2, v3, v4, hI.kept (Chg.grown hgr) (fun b hb => Nat.le_trans hGB (hx.lt b hb.symm).1) hmsv (fun _ ok2 _ a2 a3 => ⟨ok2, a2, a3⟩)⟩, h.wf, hl, ⟨xs ++ xs2, fun b => (ok b ∧ b < w2.heap.size) ∨ (K b ∧ Tag w2 58 b), by rw [← hn]; exact hown, ReqRows.append (hr.kept (fun b hlb hob => hgr.block b hlb (htag b (hok b hob).2.2)) (fun b hlb x => .inl ⟨x, hlb⟩)) (hr2.tag.kept (fun b hlb hob => hgr.block b hlb (htag b hob.2)) (fun b _ x => .inr x)), fun b hb => ?_⟩, fun b hb => ?_, h.bel.trans ((Chg.grown hgr).below h.bel.size (fun k hk => (hx.lt k hk.symm).1)), h.msl⟩
  · have hb2 : b < w2.heap.size ∧ ¬ ms b ∧ Tag w2 58 b := by
      rcases hb with hb | hb
      · exact hok b hb.1
      · exact ⟨(hK b hb.1).1, (hK b hb.1).2, hb.2⟩
    obtain ⟨k1, k2, cur, k3⟩ := hb2
    exact ⟨Nat.lt_of_lt_of_le k1 hgr.size, k2, cur, (hgr.block b k1 (htag b ⟨cur, k3⟩)).trans k3⟩
  · injection hb with e
    rw [← e]
    exact hmg

/-- what all leaves -/
def AllOut (w : World) (l : List UInt8) (e : Ending) (w' : World) : Prop :=
  ∃ v K, e = .returned (.tuple #[v, .int .i64 (rsZ.feed l).1.fault, .int .i64 (rsZ.feed l).1.held]) ∧ ReqsAt w' v (rsZ.feed l).2 K ∧ (∀ b, K b → b < w'.heap.size) ∧ Below w.heap.size w w'

theorem feed_len : ∀ (l : List UInt8) (s : RS), (s.feed l).2.length ≤ l.length
  | [], s => Nat.le_refl _
  | b :: l, s => by
    unfold RS.feed
    split
    · simp
    · have h1 := step_len s b
      have h2 := feed_len l (s.step b).1
      simp only [List.length_append, List.length_cons]
      omega
theorem feed_wf : ∀ (l : List UInt8) (s : RS) (N : Nat), WF N s → WF (N + l.length) (s.feed l).1
  | [], s, N, h => h
  | b :: l, s, N, h => by
    unfold RS.feed
    split
    · exact h.mono (by omega)
    · rename_i hd
      have := feed_wf l (s.step b).1 (N + 1) (step_wf h (by simpa using hd) b)
      rw [show N + 1 + l.length = N + (b :: l).length from by simp only [List.length_cons]; omega] at this
      exact this

set_option maxHeartbeats 4000000 in
set_option maxRecDepth 100000 in
theorem all_law (pieces : List (List UInt8)) (v : Value) (w : World) (hG : Glob w) (hS : SlAt w 1 v (strRows pieces)) (hl : pieces.flatten.length ≤ 1000000000) (hp : pieces.length ≤ 140737488351232) :
    Calls Tryz.prog 11 #[v] w (AllOut w pieces.flatten) := by
  obtain ⟨i0, hi, hz0, hz1, hz2⟩ : ∃ i, Tryz.prog.info? 31 = some i ∧ i.zero = some (.agg #[.string ⟨#[]⟩, .string ⟨#[]⟩, .int .i64 0, .slice none 0 0, .string ⟨#[]⟩, .bool false]) ∧ i.size = 6 ∧ i.bytes = 88 :=
    info_parts (show (Tryz.prog.info? 31).map (fun i => (i.zero, i.size, i.bytes)) = some (some (.agg #[.string ⟨#[]⟩, .string ⟨#[]⟩, .int .i64 0, .slice none 0 0, .string ⟨#[]⟩, .bool false]), 6, 88) by kernel_rfl)
  obtain ⟨a, c, rfl, hc⟩ := hS.at_str
  have HC := Lib.hid hc
  have HNW := Lib.hid (new_any w hG)
  have hGB := hG.big
  clear hS hc
  go_enter Tryz.func11, Tryz.ntmps11
  go_wp2_with fail
  refine HNW.out.mono ?_
  rintro e w1 ⟨rfl, r1, b1⟩
  have A1 : Hid (AllAt w w1 (ownRd w.heap.size) rsZ [] (.slice none 0 0) 0) := ⟨r1, rsZ_wf, Nat.le_refl _, ⟨[], fun _ => False, World.ownsRow_nil _ _ _ _, rfl, fun _ x => x.elim⟩, (fun b hb => by cases hb), b1, (fun b hb => by omega)⟩
  clear r1 b1 HNW
  go_wp2
  go_loopg [6, 7] pieces.length (fun gg s6 s7 wr => ∃ (i : Nat) (ms : Own) (vo : Value), i ≤ pieces.length ∧ pieces.length - i ≤ gg ∧ s7 = .int .i64 i ∧ s6 = vo ∧ Hid (AllAt w wr ms (rsZ.feed (pieces.take i).flatten).1 (rsZ.feed (pieces.take i).flatten).2 vo (pieces.take i).flatten.length))
  case atStart => exact ⟨0, _, _, Nat.zero_le _, by omega, rfl, rfl, A1.out⟩
  case round =>
    obtain ⟨i, ms, vo, hin, hg, rfl, h6, AX⟩ := hrel
    obtain ⟨xs, ok, o1, o2, o3⟩ := AX.out.out
    obtain ⟨ao, co, rfl⟩ := rowB_form o1
    subst h6
    by_cases hlt : i < pieces.length
    · have hltz : (i : Int) < (pieces.length : Int) := by omega
      obtain ⟨p, hip⟩ : ∃ p, pieces[i]? = some p := ⟨_, List.getElem?_eq_getElem hlt⟩
      obtain ⟨g, off, rfl, k0⟩ := HC.out i p hip
      have e0 := cell_later AX.out.bel k0
      have htk : (pieces.take (i + 1)).flatten = (pieces.take i).flatten ++ p := by rw [List.take_add_one, hip]; simp
      have hle : (pieces.take (i + 1)).flatten.length ≤ 1000000000 := by
        have h1 : (pieces.take (i + 1)).flatten.length ≤ pieces.flatten.length := by
          conv => rhs; rw [← List.take_append_drop (i + 1) pieces]
          rw [List.flatten_append, List.length_append]
          omega
        omega
      rw [htk, List.length_append] at hle
      have HFE := Lib.hid (feed_any p AX.out.rdr AX.out.wf hle)
      have HW2 := Lib.hid (feed_wf p _ _ AX.out.wf)
      have HL2 := Lib.hid (feed_len p (rsZ.feed (pieces.take i).flatten).1)
      have HTK : Hid (rsZ.feed (pieces.take (i + 1)).flatten = (((rsZ.feed (pieces.take i).flatten).1.feed p).1, (rsZ.feed (pieces.take i).flatten).2 ++ ((rsZ.feed (pieces.take i).flatten).1.feed p).2) ∧ (pieces.take (i + 1)).flatten.length = (pieces.take i).flatten.length + p.length) := ⟨by rw [htk, feed_append], by rw [htk, List.length_append]⟩
      generalize (rsZ.feed (pieces.take i).flatten) = r at *
      generalize (pieces.take i).flatten.length = N at *
      obtain ⟨st, qs⟩ := r
      simp only at AX o1 o2 o3 HFE HW2 HL2 HTK
      generalize st.feed p = r2 at *
      obtain ⟨st2, q2⟩ := r2
      simp only at HFE HW2 HL2 HTK
      clear k0 hip htk
      go_wp2_with fail
      refine HFE.out.mono ?_
      rintro e w2 ⟨v2, ms2, K, rfl, r2, m2, ⟨xs2, p1, p2, p3⟩, hK, hv2⟩
      replace hK : ∀ b, K b → b < w2.heap.size ∧ ¬ ms2 b := fun b hb => ⟨(hK b hb).1, (hK b hb).2.1⟩
      have A2 := Lib.hid (AX.out.quiet r2 m2 HW2.out (by omega))
      obtain ⟨a2, c2, rfl⟩ := row_form p1
      obtain ⟨ys, ok2, t1, t2, t3⟩ := A2.out.out
      have HSZ := Lib.hid A2.out.bel.size
      have HQL := Lib.hid A2.out.len
      have hql := AX.out.len
      have hq2 := HL2.out
      clear r2 m2 hv2 o1 o2 o3 AX HFE
      cases q2 with
      | nil =>
        have hx2 : xs2 = [] := p2
        have hsrc : Src Tryz.prog 6 24 (.slice a2 0 c2) 0 [] w2 := by
          cases a2 with
          | none => exact Src.ofNil w2 Tryz.underlying24 c2
          | some ad => exact Src.ofSlice (size := 6) w2 Tryz.underlying24 ad 0 c2 [] (by simp) (fun j u hj => by simp at hj) (fun u hu => by simp at hu)
        have hcap : qs.length ≤ co := by
          rcases t1.2 with ⟨h1, h2⟩ | ⟨g1, cap1, cur1, h1, _, _, h2, _⟩
          · rw [h2]; exact Nat.zero_le _
          · injection h1 with _ _ h1; rw [h1]; exact h2
        have HSRC := Lib.hid hsrc
        clear hsrc p1 p2 p3 hK t1 t2 t3 hx2
        go_wp2_with (at_builtin; refine wpList_append_nothing rfl _ _ 24 rfl 31 i0 Tryz.underlying24 hi 6 hz1 ao qs.length co hcap _ rfl rfl HSRC.out ?_)
        go_roundg (pieces.length - (i + 1))
        case measure => omega
        case rel =>
          refine ⟨i + 1, ms2, _, by omega, by omega, by go_num, rfl, ?_⟩
          rw [HTK.out.1, HTK.out.2, List.append_nil]
          exact A2.out
      | cons q qr =>
        obtain ⟨gq, cq, hvq, _, _⟩ := p1.form (by simp)
        injection hvq with e1 _ e3
        subst e1 e3
        have hone := p2.oneCell
        have hcl := fun j u (hj : xs2[j]? = some u) => p1.cells (g := gq) rfl j u hj
        have hpl := p1.1
        have hlen2 : 0 < (q :: qr).length := by simp
        have P2 := Lib.hid p2
        have HKK := Lib.hid hK
        have T1 := Lib.hid t1
        have T2 := Lib.hid t2
        have T3 := Lib.hid t3
        have hlq : (q :: qr).length ≤ p.length := hq2
        generalize hql2 : (q :: qr).length = nq at *
        clear p1 p2 p3 hK t1 t2 t3
        go_wp2_with (at_builtin; refine wpList_append_lies _ rfl _ _ 24 rfl w.heap.size 31 i0 _ 6 88 Tryz.underlying24 hi hz0 hz1 hz2 rfl (by decide) (.slice ao qs.length co) qs.length ys rfl T1.out ⟨gq, 0, none⟩ nq c2 xs2 rfl hpl hcl hone hlen2 (by simp only [maxLen]; omega) (by omega) HSZ.out _ rfl ?_)
        intro gn cap w3 hown hgr hat hlt3
        have A3 := Lib.hid (A2.out.more T1.out T2.out T3.out P2.out HKK.out (by rw [List.length_append, hql2]) (by rw [List.length_append, hql2]; omega) hown hgr hat hGB)
        clear hown hgr hat hlt3 hcl hone
        go_wp2
        go_roundg (pieces.length - (i + 1))
        case measure => omega
        case rel =>
          refine ⟨i + 1, ms2, _, by omega, by omega, by go_num, rfl, ?_⟩
          rw [HTK.out.1, HTK.out.2]
          exact A3.out
    · have he : i = pieces.length := by omega
      subst he
      rw [List.take_length] at AX o1 o2
      have hql : (rsZ.feed pieces.flatten).2.length ≤ pieces.flatten.length := AX.out.len
      have HFA := Lib.hid (fault_any AX.out.rdr)
      have HHE := Lib.hid (held_any AX.out.rdr AX.out.wf hl)
      have HOUT : Hid (ReqsAt wr (.slice ao (rsZ.feed pieces.flatten).2.length co) (rsZ.feed pieces.flatten).2 (fun b => (ok b ∧ b < wr.heap.size) ∨ (Value.slice ao (rsZ.feed pieces.flatten).2.length co).ownBlock = some b) ∧ ∀ b, ((ok b ∧ b < wr.heap.size) ∨ (Value.slice ao (rsZ.feed pieces.flatten).2.length co).ownBlock = some b) → b < wr.heap.size) := by
        have o1' : wr.ownsRow 0 31 6 (.slice ao (rsZ.feed pieces.flatten).2.length co) (rsZ.feed pieces.flatten).2.length xs := by
          refine ⟨o1.1, ?_⟩
          rcases o1.2 with h1 | ⟨g, cap, cur, hv, _, r⟩
          · exact .inl h1
          · exact .inr ⟨g, cap, cur, hv, Nat.zero_le _, r⟩
        refine ⟨⟨xs, o1', o2.kept (fun _ _ _ => rfl) (fun b hl x => .inl ⟨x, hl⟩), fun b hb => .inr hb⟩, fun b hb => ?_⟩
        rcases hb with hb | hb
        · exact hb.2
        · exact (o1.lt b hb).2
      have BW := Lib.hid AX.out.bel
      clear AX o1 o2 o3 HC A1
      go_wp2_with fail
      refine HFA.out.mono ?_
      rintro e w4 ⟨rfl, rfl⟩
      go_wp2_with fail
      refine HHE.out.mono ?_
      rintro e w5 ⟨rfl, n5, rfl⟩
      go_wp2_with fail
      go_ret3
      exact ⟨_, _, rfl, HOUT.out.1.kept (fun _ _ _ => rfl), HOUT.out.2, belowDrewN BW.out _⟩

end Go.Proofs.YtdilmefeofdkmaaGreatDoor
