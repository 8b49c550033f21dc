/-
  SEVERAL SMALL TEXTS IN ONE.
-/
import Derived.Test.YtdilmefeofdkmaaGreatDoorSm20
import Derived.Test.YtdilmefeofdkmaaGreatDoorWiStepP
import Derived.Test.YtdilmefeofdkmaaGreatDoorWxFeed
/-
  WIRE: spoil: the fields of requests that came are written over; nothing else is.
-/
namespace Go.Proofs.YtdilmefeofdkmaaGreatDoor
open Go.RowKit

/-- blocks keep their kind and size; only rows of pairs may hold other things -/
structure Spoilt (w wr : World) (K : Nat → Prop) : Prop where
  chg : Chg w wr K
  blk : ∀ (b : Nat) (cur : Array Value) (t : TypeId), w.heap[b]? = some (.cells cur t (0, 0)) → ∃ cur' : Array Value, wr.heap[b]? = some (.cells cur' t (0, 0)) ∧ cur'.size = cur.size ∧ (t ≠ 58 → cur' = cur)
theorem Spoilt.refl (w : World) (K : Nat → Prop) : Spoilt w w K := ⟨Chg.refl _ _, fun _ cur _ h => ⟨cur, h, rfl, fun _ => rfl⟩⟩
theorem Spoilt.set {w wr : World} {K : Nat → Prop} (h : Spoilt w wr K) {g : Nat} (o : Nat) (v : Value) (hK : K g) {cur : Array Value} (hg : w.heap[g]? = some (.cells cur 58 (0, 0))) : Spoilt w (wr.setCell ⟨g, o, none⟩ v) K := by
  refine ⟨h.chg.trans ((Chg.set wr ⟨g, o, none⟩ v).mono fun b _ e => by simp only at e; rw [e]; exact hK), fun b cur2 t hb => ?_⟩
  obtain ⟨c1, k1, k2, k3⟩ := h.blk b cur2 t hb
  by_cases e : b = g
  · subst e
    rw [hg] at hb
    injection hb with hb
    injection hb with e1 e2 e3
    subst e1 e2
    exact ⟨_, heap_set k1 v, by simpa using k2, fun x => absurd rfl x⟩
  · exact ⟨c1, (Below.heap_setCell _ _ _ _ e).trans k1, k2, k3⟩

theorem ReqsAt.heap {w : World} {v : Value} {qs : List ReqV} {K : Nat → Prop} (h : ReqsAt w v qs K) {i : Nat} {q : ReqV} (hi : qs[i]? = some q) : ∃ g c vf cur, v = .slice (some ⟨g, 0, none⟩) qs.length c ∧ w.heap[g]? = some (.cells cur 31 (0, 0)) ∧ cur[i * 6 + 3]? = some vf ∧ w.ownsRow 0 58 2 vf q.fields.length (pairCells q.fields) ∧ (∀ b, vf.ownBlock = some b → K b) := by
  obtain ⟨xs, h1, h2, h3⟩ := h
  obtain ⟨vf, _, _, _, k3, _, _, k6, k7⟩ := h2.get hi
  have hlt := (List.getElem?_eq_some_iff.1 hi).1
  rcases h1.2 with ⟨_, h0⟩ | ⟨g, cap, cur, hv, _, hg, hn, hm, hcs, ht⟩
  · omega
  · refine ⟨g, cap, vf, cur, hv, hg, ?_, k6, k7⟩
    rw [← ht] at k3
    have hl := (List.getElem?_eq_some_iff.1 k3).1
    rw [List.length_take] at hl
    rw [List.getElem?_take, if_pos (by omega), Array.getElem?_toList] at k3
    exact k3

set_option maxHeartbeats 4000000 in
set_option maxRecDepth 100000 in
theorem spoil_any {w : World} {v : Value} {qs : List ReqV} {K : Nat → Prop} (h : ReqsAt w v qs K) (hl : qs.length ≤ 1000000000) (hf : ∀ q ∈ qs, q.fields.length ≤ 50) :
    Calls Tryz.prog 21 #[v] w fun e w' => e = .returned (.tuple #[]) ∧ Chg w w' K := by
  have HR := Lib.hid h
  have HF := Lib.hid hf
  obtain ⟨a, c, rfl⟩ := h.form
  clear h hf
  go_enter Tryz.func21, Tryz.ntmps21
  go_wp2
  go_loopg [2, 3] qs.length (fun gg s2 _ wr => ∃ i : Nat, i ≤ qs.length ∧ qs.length - i ≤ gg ∧ s2 = .int .i64 i ∧ Hid (Spoilt w wr K))
  case atStart => exact ⟨0, Nat.zero_le _, by omega, rfl, Spoilt.refl _ _⟩
  case round =>
    obtain ⟨i, hin, hg, rfl, SR⟩ := hrel
    by_cases hlt : i < qs.length
    · have hltz : (i : Int) < (qs.length : Int) := by omega
      obtain ⟨q, hiq⟩ : ∃ q, qs[i]? = some q := ⟨_, List.getElem?_eq_getElem hlt⟩
      obtain ⟨g, c', vf, cur, hv, hgh, hcv, hown, hKb⟩ := HR.out.heap hiq
      injection hv with hv _ ec
      subst hv ec
      have hfl := HF.out q (List.mem_of_getElem? hiq)
      obtain ⟨af, cf, rfl⟩ := row_form hown
      have HGH := Lib.hid hgh
      have HCV := Lib.hid hcv
      have HL3 : Hid (∀ wr, Spoilt w wr K → wr.cell? ⟨g, i * 6 + 3, none⟩ = some (.slice af q.fields.length cf)) := fun wr hs => by
        obtain ⟨c1, k1, _, k3⟩ := hs.blk g cur _ HGH.out
        have := k3 (by decide)
        subst this
        simp only [World.cell?, k1]
        exact HCV.out
      have HPK : Hid (∀ k, k < q.fields.length → ∃ gf, af = some ⟨gf, 0, none⟩ ∧ K gf ∧ (∃ cu, w.heap[gf]? = some (.cells cu 58 (0, 0))) ∧ ∀ wr, Spoilt w wr K → ∃ u0 u1, wr.cell? ⟨gf, k * 2, none⟩ = some u0 ∧ wr.cell? ⟨gf, k * 2 + 1, none⟩ = some u1 ∧ wr.frozen? ⟨gf, k * 2, none⟩ = false ∧ wr.frozen? ⟨gf, k * 2 + 1, none⟩ = false) := fun k hk => by
        rcases hown.2 with ⟨_, h0⟩ | ⟨gf, cap, cu, hv2, _, hgf, hn, hm, hcs, ht⟩
        · omega
        · injection hv2 with e1 _ _
          have hsz : k * 2 + 1 < cu.size := by
            have h1 := congrArg List.length ht
            rw [List.length_take, pairCells_len, Array.length_toList] at h1
            omega
          refine ⟨gf, e1, hKb gf (by rw [e1]; rfl), ⟨cu, hgf⟩, fun wr hs => ?_⟩
          obtain ⟨c1, k1, k2, _⟩ := hs.blk gf cu _ hgf
          refine ⟨c1[k * 2]'(by omega), c1[k * 2 + 1]'(by omega), ?_, ?_, free_of_heap k1, free_of_heap k1⟩
          · simp only [World.cell?, k1]
            exact Array.getElem?_eq_getElem _
          · simp only [World.cell?, k1]
            exact Array.getElem?_eq_getElem _
      clear hgh hcv hown hKb hiq hlt
      go_wp2
      go_loopg [3] q.fields.length (fun gg s3 wr => ∃ k : Nat, k ≤ q.fields.length ∧ q.fields.length - k ≤ gg ∧ s3 = .int .i64 k ∧ Hid (Spoilt w wr K))
      case atStart => exact ⟨0, Nat.zero_le _, by omega, rfl, SR⟩
      case round =>
        obtain ⟨k, hkn, hgk, rfl, SK⟩ := hrel
        have l3 := HL3.out _ SK.out
        by_cases hlk : k < q.fields.length
        · have hlkz : (k : Int) < (q.fields.length : Int) := by omega
          obtain ⟨gf, rfl, hKg, ⟨cu, hcu⟩, hwr⟩ := HPK.out k hlk
          obtain ⟨u0, u1, p0, p1, f0, f1⟩ := hwr _ SK.out
          have S2 := Lib.hid ((SK.out.set (k * 2) (.string ⟨#[63]⟩) hKg hcu).set (k * 2 + 1) (.string ⟨#[]⟩) hKg hcu)
          clear hwr hcu hlk
          go_wp2
          go_roundg (q.fields.length - (k + 1))
          case measure => omega
          case rel => exact ⟨k + 1, by omega, by omega, by go_num, S2⟩
        · have hlkz : (q.fields.length : Int) ≤ (k : Int) := by omega
          go_wp2
          go_roundg (qs.length - (i + 1))
          case measure => omega
          case rel => exact ⟨i + 1, by omega, by omega, by go_num, SK⟩
    · have hltz : (qs.length : Int) ≤ (i : Int) := by omega
      go_wp2
      first | go_end0 | (refine bodyPost_ret (results_none rfl _ _ _) rfl ?_)
      exact ⟨rfl, SR.out.chg⟩

end Go.Proofs.YtdilmefeofdkmaaGreatDoor

/-
  WIRE, plain: how much is held.
-/
namespace Go.Proofs.YtdilmefeofdkmaaGreatDoor

def HB (s : RS) : Prop := s.done = false → match s.mode with
  | .first => s.body = [] ∧ s.left = 0
  | .field => s.body = [] ∧ s.left = 0
  | .bytes => (s.body.length : Int) + s.left ≤ 8000 ∧ s.line.length ≤ 200
  | .chunk => (s.body.length : Int) + s.left ≤ 8000 ∧ s.line.length ≤ 200
  | .size => s.body.length ≤ 8000 ∧ s.line.length ≤ 200
  | .chunkEnd => s.body.length ≤ 8000 ∧ s.line.length ≤ 200
  | .last => s.body.length ≤ 8000 ∧ s.line.length ≤ 200
theorem HB.fail (s : RS) (e : Int) : HB (s.fail e) := fun h => by cases h
theorem HB.complete (s : RS) : HB s.complete.1 := fun _ => ⟨rfl, rfl⟩
theorem HB.begin (s : RS) : HB s.begin := fun _ => ⟨rfl, rfl⟩
theorem ends_hb (s : RS) (hb : s.body = []) (hl : s.line = []) : HB s.ends.1 := by
  rw [ends_eq s rfl rfl rfl]
  split
  · exact HB.fail _ _
  split
  · exact HB.fail _ _
  split
  · exact HB.fail _ _
  split
  · exact HB.fail _ _
  rename_i h8
  split
  · intro _
    simp only [hb, hl]
    exact ⟨by simp, by simp⟩
  split
  · exact HB.complete _
  · intro _
    simp only [hb, hl]
    exact ⟨by simp; omega, by simp⟩
theorem step_hb {s : RS} (h : HB s) (hd : s.done = false) (b : UInt8) : HB (s.step b).1 := by
  have hm := h hd
  unfold RS.step
  cases he : s.mode <;> rw [he] at hm <;> simp only at hm ⊢
  · unfold RS.first RS.counts
    simp only
    by_cases c0 : 8000 < s.head + 1
    · simp only [if_pos c0]; exact HB.fail _ _
    simp only [if_neg c0]
    split
    · split
      · exact HB.begin _
      · intro hx
        have hr : ∀ t : RS, ∀ l, (t.request l).body = t.body ∧ (t.request l).left = t.left := fun t l => by
          unfold RS.request
          simp only
          split
          · exact ⟨rfl, rfl⟩
          · split
            · exact ⟨rfl, rfl⟩
            · split <;> exact ⟨rfl, rfl⟩
        simp only
        rw [(hr _ _).1, (hr _ _).2]
        exact hm
    · split
      · intro _
        simp only [RS.put, he]
        exact hm
      · split
        · split
          · exact HB.fail _ _
          · intro _
            simp only [RS.put, he]
            exact hm
        · intro _
          simp only [RS.put, he]
          exact hm
  · unfold RS.field RS.counts
    simp only
    by_cases c0 : 8000 < s.head + 1
    · simp only [if_pos c0]; exact HB.fail _ _
    simp only [if_neg c0]
    split
    · intro _
      simp only [RS.put, he]
      exact hm
    · split
      · exact ends_hb _ hm.1 rfl
      · split
        · exact HB.fail _ _
        · split
          · exact HB.fail _ _
          · intro _
            simp only [he]
            exact hm
  · unfold RS.bytes
    simp only
    split
    · exact HB.complete _
    · intro _
      simp only [he, List.length_append, List.length_cons, List.length_nil]
      exact ⟨by omega, hm.2⟩
  · unfold RS.size RS.chunkLine
    by_cases hb : b = 10
    · simp only [if_pos hb]
      split
      · exact HB.fail _ _
      · split
        · exact HB.fail _ _
        · rename_i h8
          split
          · intro _
            exact ⟨hm.1, by simp⟩
          · intro _
            exact ⟨by simp only at h8 ⊢; omega, by simp⟩
    · simp only [if_neg hb]
      by_cases hl : 200 < s.line.length + 1
      · simp only [if_pos hl]; exact HB.fail _ _
      · simp only [if_neg hl]
        intro _
        simp only [RS.put, he, List.length_append, List.length_cons, List.length_nil]
        exact ⟨hm.1, by omega⟩
  · unfold RS.chunk
    simp only
    split
    · intro _
      simp only [List.length_append, List.length_cons, List.length_nil]
      exact ⟨by omega, hm.2⟩
    · intro _
      simp only [he, List.length_append, List.length_cons, List.length_nil]
      exact ⟨by omega, hm.2⟩
  · unfold RS.chunkEnd
    split
    · intro _
      exact ⟨hm.1, by simp⟩
    · split
      · rename_i hc
        simp only [Bool.and_eq_true, List.isEmpty_iff] at hc
        intro _
        simp only [RS.put, he, List.length_append, List.length_cons, List.length_nil]
        exact ⟨hm.1, by rw [hc.2]; simp⟩
      · exact HB.fail _ _
  · unfold RS.last RS.chunkLine
    by_cases hb : b = 10
    · simp only [if_pos hb]
      split
      · exact HB.fail _ _
      · exact HB.complete _
    · simp only [if_neg hb]
      by_cases hl : 200 < s.line.length + 1
      · simp only [if_pos hl]; exact HB.fail _ _
      · simp only [if_neg hl]
        intro _
        simp only [RS.put, he, List.length_append, List.length_cons, List.length_nil]
        exact ⟨hm.1, by omega⟩
theorem feed_hb : ∀ (l : List UInt8) (s : RS), HB s → HB (s.feed l).1
  | [], s, h => h
  | b :: l, s, h => by
    unfold RS.feed
    split
    · exact h
    · rename_i hd
      exact feed_hb l (s.step b).1 (step_hb h (by simpa using hd) b)
theorem held_le {s : RS} {N : Nat} (h : HB s) (hw : WF N s) : s.held ≤ 16200 := by
  unfold RS.held
  split
  · omega
  · rename_i hd
    have hd' : s.done = false := by simpa using hd
    have hm := h hd'
    have h1 := hw.hd hd'
    have h2 := hw.lm
    cases he : s.mode <;> rw [he] at hm <;> simp only at hm
    · rw [hm.1, if_neg (by omega)]; simp; omega
    · rw [hm.1, if_neg (by omega)]; simp; omega
    · have := h2 (.inl he)
      rw [if_neg (by omega)]; omega
    · split <;> omega
    · have := h2 (.inr he)
      rw [if_neg (by omega)]; omega
    · split <;> omega
    · split <;> omega

end Go.Proofs.YtdilmefeofdkmaaGreatDoor

/-
  WIRE: the two Readers side by side: neither writes into the other's blocks, nor into what was told.
-/
namespace Go.Proofs.YtdilmefeofdkmaaGreatDoor
open Go.RowKit

/-- the program's Reader at rd, the document's at xr -/
structure Two (w0 w : World) (rd xr : Nat) (s : RS) (q : QS) (N : Nat) (ms : Own) (xs : Nat → Prop) : Prop where
  rdr : RdrAt w rd ms s []
  ref : ∃ v0 vl vf vb, IdleIn w xr xs q v0 vl vf vb
  sim : Sim s q
  wf : WF N s
  hb : HB s
  apart : ∀ b, ms b → ¬ xs b
  msl : ∀ b, ms b → w0.heap.size ≤ b
  xsl : ∀ b, xs b → w0.heap.size ≤ b
  bel : Below w0.heap.size w0 w
theorem Two.later {w0 w w' : World} {rd xr : Nat} {s : RS} {q : QS} {N : Nat} {ms : Own} {xs : Nat → Prop} (h : Two w0 w rd xr s q N ms xs) (hb : Below w.heap.size w w') : Two w0 w' rd xr s q N ms xs := by
  obtain ⟨v0, vl, vf, vb, h1⟩ := h.ref
  exact ⟨h.rdr.later hb, ⟨v0, vl, vf, vb, h1.later hb⟩, h.sim, h.wf, h.hb, h.apart, h.msl, h.xsl, h.bel.trans (hb.mono h.bel.size)⟩
/-- what was told was written over -/
theorem Two.spoilt {w0 w w' : World} {rd xr : Nat} {s : RS} {q : QS} {N : Nat} {ms : Own} {xs K : Nat → Prop} (h : Two w0 w rd xr s q N ms xs) (hc : Chg w w' K) (h1 : ∀ b, K b → ¬ ms b) (h2 : ∀ b, K b → ¬ xs b) (h3 : ∀ b, K b → w0.heap.size ≤ b) (h4 : 8 ≤ w0.heap.size) : Two w0 w' rd xr s q N ms xs := by
  obtain ⟨v0, vl, vf, vb, k⟩ := h.ref
  obtain ⟨uo, ul, uf, ub, r⟩ := h.rdr
  refine ⟨⟨uo, ul, uf, ub, r.kept hc (fun b hb => Nat.le_trans h4 (h3 b hb)) (fun b hb hk => h1 b hk hb) fun xs ok k1 k2 k3 => ?_⟩, ⟨v0, vl, vf, vb, k.kept hc (fun b hb => Nat.le_trans h4 (h3 b hb)) (fun b hb hk => h2 b hk hb)⟩, h.sim, h.wf, h.hb, h.apart, h.msl, h.xsl, h.bel.trans (hc.below h.bel.size h3)⟩
  have hx : xs = [] := List.eq_nil_of_length_eq_zero (by simpa using k1.1)
  subst hx
  exact ⟨fun _ => False, rfl, fun _ x => x.elim⟩
/-- both have fed: w5 behind the program's, w6 behind the document's -/
theorem Two.fed {w0 w w5 w6 : World} {rd xr : Nat} {s : RS} {q : QS} {N : Nat} {ms ms5 : Own} {xs xs6 K : Nat → Prop} {p : List UInt8} {v5 u0 ul uf ub : Value} {l out : List ReqV} (h : Two w0 w rd xr s q N ms xs) (h4 : 8 ≤ w0.heap.size)
    (r5 : RdrAt w5 rd ms5 (s.feed p).1 []) (m5 : Mv w w5 ms ms5) (q5 : ReqsAt w5 v5 l K) (k5 : ∀ b, K b → b < w5.heap.size ∧ ¬ ms5 b ∧ (ms b ∨ w.heap.size ≤ b))
    (x6 : RefIn w6 xr xs6 (q.feed p).1 out u0 ul uf ub) (m6 : Xv w5 w6 xs xs6) :
    Two w0 w6 rd xr (s.feed p).1 (q.feed p).1 (N + p.length) ms5 xs6 ∧ ReqsAt w6 v5 l K ∧ (∀ b, K b → ¬ ms5 b) ∧ (∀ b, K b → ¬ xs6 b) ∧ (∀ b, K b → w0.heap.size ≤ b) := by
  obtain ⟨v0, vl, vf, vb, hx⟩ := h.ref
  have xlt : ∀ b, xs b → b < w.heap.size := fun b hb => (hx.low b hb).2
  have n5 : ∀ b, ms5 b → ¬ xs b := fun b hb x => by
    rcases m5.new b hb with y | y
    · exact h.apart b y x
    · have := xlt b x; omega
  have nK : ∀ b, K b → ¬ xs b := fun b hb x => by
    rcases (k5 b hb).2.2 with y | y
    · exact h.apart b y x
    · have := xlt b x; omega
  have hlow : ∀ b, ms b ∨ w.heap.size ≤ b → w0.heap.size ≤ b := fun b hb => by
    rcases hb with y | y
    · exact h.msl b y
    · exact Nat.le_trans h.bel.size y
  obtain ⟨yo, yl, yf, yb, r⟩ := r5
  have lt5 : ∀ b, ms5 b → b < w5.heap.size := fun b hb => (r.low b hb).2
  have b5 : Below w0.heap.size w0 w5 := h.bel.trans (m5.below h.bel.size h.msl)
  refine ⟨⟨⟨yo, yl, yf, yb, r.kept m6.chg (fun b hb => Nat.le_trans h4 (h.xsl b hb)) n5 fun zs ok k1 k2 k3 => ?_⟩, ⟨_, _, _, _, x6.idle⟩, (sim_feed p h.sim h.wf).1, ?_, feed_hb p s h.hb, fun b hb x => ?_, fun b hb => hlow b (m5.new b hb), fun b hb => ?_, b5.trans (m6.below b5.size h.xsl)⟩,
    q5.kept fun b hl hb => m6.chg.block b hl (nK b hb), fun b hb => (k5 b hb).2.1, fun b hb x => ?_, fun b hb => hlow b (k5 b hb).2.2⟩
  · have hz : zs = [] := List.eq_nil_of_length_eq_zero (by simpa using k1.1)
    subst hz
    exact ⟨fun _ => False, rfl, fun _ x => x.elim⟩
  · exact feed_wf p s N h.wf
  · rcases m6.new b x with y | y
    · exact n5 b hb y
    · have := lt5 b hb; omega
  · rcases m6.new b hb with y | y
    · exact h.xsl b y
    · exact Nat.le_trans b5.size y
  · rcases m6.new b x with y | y
    · exact nK b hb y
    · have := (k5 b hb).1; omega
end Go.Proofs.YtdilmefeofdkmaaGreatDoor
