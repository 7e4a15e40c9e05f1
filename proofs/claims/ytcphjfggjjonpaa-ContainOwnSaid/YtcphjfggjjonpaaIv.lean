/- Rules of one's own, one behind another, each in an interval of blocks: what a store into one of them leaves of the others. -/
import Derived.Test.YtcphjfggjjonpaaSmp
namespace Go.Proofs.Ytcphjfggjjonpaa
open Go.ChangeShapes Go.WideShapes Go.ChangeAt Go.RowKit
theorem NewQs.same {w w' : World} {lo : Nat} {qs : List RuleQ} {v : Value} (h : NewQs w lo qs v) (hs : HeapSame lo w.heap.size w w') : NewQs w' lo qs v := by
  refine ⟨own_same h.row (Nat.le_refl _) hs, fun q hq => NewR.same (h.rules q hq) (Nat.le_refl _) hs, ?_⟩
  refine h.apart.imp_of_mem fun {p q} hp hq ⟨m, h1, h2⟩ => ?_
  by_cases hm : m ≤ lo
  · exact ⟨lo, NewR.same (NewR.avoid h1 (fun b hb => .inl (Nat.le_trans hm hb))) (Nat.le_refl _) hs, NewR.same (h.rules q hq) (Nat.le_refl _) hs⟩
  · exact ⟨m, NewR.same h1 (Nat.le_refl _) hs, NewR.same h2 (by omega) hs⟩
/-- The world with its first blocks alone. -/
def cutW (w : World) (hi : Nat) : World := { w with heap := w.heap.extract 0 hi }
theorem cutW_size {w : World} {hi : Nat} (h : hi ≤ w.heap.size) : (cutW w hi).heap.size = hi := by simp [cutW, h]
theorem cutW_block {w : World} {hi b : Nat} (hb : b < hi) : (cutW w hi).heap[b]? = w.heap[b]? := by
  simp [cutW, Array.getElem?_extract]
  intro h
  omega
theorem cutW_ext {w : World} {hi : Nat} (h : hi ≤ w.heap.size) : Ext (cutW w hi) w := by
  refine ⟨rfl, rfl, rfl, by rw [cutW_size h]; exact h, fun i hi' => ?_⟩
  rw [cutW_size h] at hi'
  exact (cutW_block hi').symm
/-- A rule of one's own, made when there were hi blocks, in blocks from lo on; so it is still. -/
def OwnQ (w : World) (lo hi : Nat) (q : RuleQ) : Prop := ∃ w0 gh ch gb cb, q.2 = ((some ⟨gh, 0, none⟩, q.1.head.terms.length, ch), (some ⟨gb, 0, none⟩, q.1.body.length, cb)) ∧ OwnR w0 lo q.1 gh ch gb cb ∧ w0.heap.size = hi ∧ HeapSame lo hi w0 w
theorem OwnQ.same {w w' : World} {lo hi : Nat} {q : RuleQ} (h : OwnQ w lo hi q) (hs : HeapSame lo hi w w') : OwnQ w' lo hi q := by
  obtain ⟨w0, gh, ch, gb, cb, h1, h2, h3, h4⟩ := h
  exact ⟨w0, gh, ch, gb, cb, h1, h2, h3, fun b b1 b2 => (hs b b1 b2).trans (h4 b b1 b2)⟩
/-- In the world of now, and in its first hi blocks. -/
theorem OwnQ.now {w : World} {lo hi : Nat} {q : RuleQ} (h : OwnQ w lo hi q) : ∃ gh ch gb cb, q.2 = ((some ⟨gh, 0, none⟩, q.1.head.terms.length, ch), (some ⟨gb, 0, none⟩, q.1.body.length, cb)) ∧ OwnR w lo q.1 gh ch gb cb ∧ OwnR (cutW w hi) lo q.1 gh ch gb cb := by
  obtain ⟨w0, gh, ch, gb, cb, h1, h2, rfl, h4⟩ := h
  exact ⟨gh, ch, gb, cb, h1, h2.same (Nat.le_refl _) h4, h2.same (Nat.le_refl _) fun b b1 b2 => (cutW_block b2).trans (h4 b b1 b2)⟩
structure Iv (w : World) (base : Nat) (qs : List RuleQ) (lo hi : Nat → Nat) (x : Option Nat) : Prop where
  own : ∀ i q, qs[i]? = some q → OwnQ w (lo i) (hi i) q
  pos : ∀ i, i < qs.length → base ≤ lo i ∧ lo i ≤ hi i ∧ hi i ≤ w.heap.size ∧ ∀ b, x = some b → b < lo i ∨ hi i ≤ b
  up : ∀ i j, i < j → j < qs.length → hi i ≤ lo j
theorem Iv.nil (w : World) (base : Nat) (lo hi : Nat → Nat) (x : Option Nat) : Iv w base [] lo hi x :=
  ⟨fun _ _ h => (by simp at h), fun _ h => absurd h (Nat.not_lt_zero _), fun _ _ _ h => absurd h (Nat.not_lt_zero _)⟩
theorem Iv.keep {w w4 w' : World} {base : Nat} {qs : List RuleQ} {lo hi : Nat → Nat} {x : Option Nat} (h : Iv w base qs lo hi x) (e : Ext w w4) {o : Obj} (g : (w4.alloc o).grownBy w' x) {g7 : Nat} (hx : x = some g7 ∨ w.heap.size ≤ g7) : Iv w' base qs lo hi (some g7) := by
  have hsz : w.heap.size ≤ w'.heap.size := by
    have := e.size
    have := g.size
    simp at this
    omega
  refine ⟨fun i q hq => (h.own i q hq).same fun b b1 b2 => ?_, fun i hi' => ?_, h.up⟩
  · obtain ⟨_, _, p3, p4⟩ := h.pos i (List.getElem?_eq_some_iff.1 hq).1
    have hb : b < w.heap.size := by omega
    have hb4 : b < w4.heap.size := Nat.lt_of_lt_of_le hb e.size
    have hne : some b ≠ x := fun e' => by
      have := p4 b e'.symm
      omega
    exact (g.block b (by simp; omega) hne).trans (((ext_alloc (Below.refl _ w4 : Ext w4 w4) o).block b hb4).trans (e.block b hb))
  · obtain ⟨p1, p2, p3, p4⟩ := h.pos i hi'
    refine ⟨p1, p2, by omega, fun b hb => ?_⟩
    cases hb
    rcases hx with hx | hx
    · exact p4 _ hx
    · omega
theorem Iv.push {w w1 w4 w' : World} {base : Nat} {qs : List RuleQ} {lo hi : Nat → Nat} {x : Option Nat} (h : Iv w base qs lo hi x) (e1 : Ext w w1) (e4 : Ext w1 w4) {o : Obj} (g : (w4.alloc o).grownBy w' x) {g7 : Nat} (hx : x = some g7 ∨ w1.heap.size ≤ g7) (hb : base ≤ w.heap.size) (hxl : ∀ b, x = some b → b < w.heap.size) {q : RuleQ} (hq : OwnQ w1 w.heap.size w1.heap.size q) :
    Iv w' base (qs ++ [q]) (fun i => if i = qs.length then w.heap.size else lo i) (fun i => if i = qs.length then w1.heap.size else hi i) (some g7) := by
  have hk : Iv w' base qs lo hi (some g7) := h.keep (ext_trans e1 e4) g (hx.imp id (fun h => Nat.le_trans e1.size h))
  have hsz : w1.heap.size ≤ w'.heap.size := by
    have := e4.size
    have := g.size
    simp at this
    omega
  refine ⟨fun i r hr => ?_, fun i hi' => ?_, fun i j hij hj => ?_⟩
  · by_cases hi' : i = qs.length
    · subst hi'
      rw [List.getElem?_append_right (Nat.le_refl _), Nat.sub_self] at hr
      cases hr
      simp only [if_pos]
      refine hq.same fun b b1 b2 => ?_
      have hb4 : b < w4.heap.size := Nat.lt_of_lt_of_le b2 e4.size
      have hne : some b ≠ x := fun e' => by
        have := hxl b e'.symm
        omega
      exact (g.block b (by simp; omega) hne).trans (((ext_alloc (Below.refl _ w4 : Ext w4 w4) o).block b hb4).trans (e4.block b b2))
    · simp only [if_neg hi']
      have hlt := (List.getElem?_eq_some_iff.1 hr).1
      rw [List.length_append] at hlt
      rw [List.getElem?_append_left (by simp at hlt; omega)] at hr
      exact hk.own i r hr
  · by_cases he : i = qs.length
    · simp only [if_pos he]
      refine ⟨hb, e1.size, hsz, fun b hb' => ?_⟩
      cases hb'
      rcases hx with hx | hx
      · exact .inl (hxl _ hx)
      · exact .inr hx
    · simp only [if_neg he]
      exact hk.pos i (by simp at hi'; omega)
  · have hne : i ≠ qs.length := by simp at hj; omega
    simp only [if_neg hne]
    by_cases he : j = qs.length
    · simp only [if_pos he]
      exact (h.pos i (by omega)).2.2.1
    · simp only [if_neg he]
      exact hk.up i j hij (by simp at hj; omega)
/-- All but the first i intervals is as it was. -/
structure OutS (lo hi : Nat → Nat) (i : Nat) (w w' : World) : Prop where
  size : w.heap.size ≤ w'.heap.size
  same : ∀ b, b < w.heap.size → (∀ j, j < i → b < lo j ∨ hi j ≤ b) → w'.heap[b]? = w.heap[b]?
theorem OutS.refl (lo hi : Nat → Nat) (w : World) : OutS lo hi 0 w w := ⟨Nat.le_refl _, fun _ _ _ => rfl⟩
theorem OutS.ext {lo hi : Nat → Nat} {i : Nat} {w x y : World} (h : OutS lo hi i w x) (e : Ext x y) : OutS lo hi i w y :=
  ⟨Nat.le_trans h.size e.size, fun b hb ho => (e.block b (Nat.lt_of_lt_of_le hb h.size)).trans (h.same b hb ho)⟩
theorem OutS.step {lo hi : Nat → Nat} {i : Nat} {w x y : World} (h : OutS lo hi i w x) (hl : Below (lo i) x y) (hh : HeapSame (hi i) x.heap.size x y) : OutS lo hi (i + 1) w y :=
  ⟨Nat.le_trans h.size hl.size, fun b hb ho => by
    have h1 := h.same b hb fun j hj => ho j (by omega)
    rcases ho i (Nat.lt_succ_self i) with h2 | h2
    · exact (hl.block b h2).trans h1
    · exact (hh b h2 (Nat.lt_of_lt_of_le hb h.size)).trans h1⟩
theorem OutS.cell {lo hi : Nat → Nat} {i : Nat} {w x : World} (h : OutS lo hi i w x) {b o : Nat} {v : Value} (ho : ∀ j, j < i → b < lo j ∨ hi j ≤ b) (hc : w.cell? ⟨b, o, none⟩ = some v) : x.cell? ⟨b, o, none⟩ = some v := by
  rw [← hc]
  exact World.cell?_of_block (h.same b (World.block_lt_of_cell? w ⟨b, o, none⟩ hc) ho)
theorem OutS.own {lo hi : Nat → Nat} {i : Nat} {w x : World} (h : OutS lo hi i w x) {base : Nat} {qs : List RuleQ} {y : Option Nat} (hv : Iv w base qs lo hi y) {k : Nat} {q : RuleQ} (hk : i ≤ k) (hq : qs[k]? = some q) : OwnQ x (lo k) (hi k) q := by
  have hlt := (List.getElem?_eq_some_iff.1 hq).1
  refine (hv.own k q hq).same fun b b1 b2 => h.same b (Nat.lt_of_lt_of_le b2 (hv.pos k hlt).2.2.1) fun j hj => .inr ?_
  exact Nat.le_trans (hv.up j k (by omega) hlt) b1
theorem OutS.above {lo hi : Nat → Nat} {i : Nat} {w x : World} (h : OutS lo hi i w x) {m : Nat} (hm : ∀ j, j < i → hi j ≤ m) : HeapSame m w.heap.size w x :=
  fun b b1 b2 => h.same b b2 fun j hj => .inr (Nat.le_trans (hm j hj) b1)
theorem Iv.ext {w w' : World} {base : Nat} {qs : List RuleQ} {lo hi : Nat → Nat} {x : Option Nat} (h : Iv w base qs lo hi x) (e : Ext w w') : Iv w' base qs lo hi x := by
  refine ⟨fun i q hq => (h.own i q hq).same fun b b1 b2 => ?_, fun i hi' => ?_, h.up⟩
  · exact e.block b (Nat.lt_of_lt_of_le b2 (h.pos i (List.getElem?_eq_some_iff.1 hq).1).2.2.1)
  · obtain ⟨p1, p2, p3, p4⟩ := h.pos i hi'
    exact ⟨p1, p2, Nat.le_trans p3 e.size, p4⟩
/-- The rule at place k of the row, in the world of now. -/
theorem OwnQ.rule {w W : World} {lo hi : Nat} {q : RuleQ} (h : OwnQ w lo hi q) {ah : Option Addr} {nh c1 : Nat} {ab : Option Addr} {nb c2 : Nat} (hr : RuleV W q.1 ah nh c1 ab nb c2) : okQ w q := by
  obtain ⟨gh, ch, gb, cb, e, h1, _⟩ := h.now
  have h3 := h1.rule hr
  have e1 : q.1.head.terms.length = nh := hr.terms.2.1
  have e2 : q.1.body.length = nb := hr.body.2.1
  unfold okQ
  rw [e, e1, e2]
  exact h3
/-- Before round k of the loop that makes them. -/
structure InSt (W : World) (rs : List Rule) (k : Nat) (v : Value) (w : World) : Prop where
  old : Ext W w
  row : ∃ (qs : List RuleQ) (lo hi : Nat → Nat), qs.map (·.1) = rs.take k ∧ w.ownsRow W.heap.size 27 3 v k (flatQ qs) ∧ Iv w W.heap.size qs lo hi v.ownBlock
theorem row_rules {w W : World} {base : Nat} {qs : List RuleQ} {g c N : Nat} {m : RuleQ} {lo hi : Nat → Nat} {x : Option Nat} {rs : List Rule} {a : Option Addr} {n : Nat} (hrow : w.ownsRow base 27 3 (.slice (some ⟨g, 0, none⟩) N c) N (flatQ (qs ++ [m]))) (hv : Iv w base qs lo hi x) (hm : qs.map (·.1) = rs) (hr : RulesAt W a n rs) : RulesAt w (some ⟨g, 0, none⟩) n rs := by
  refine ⟨hr.1, hr.2.1, fun i r hi => ?_⟩
  obtain ⟨_, _, q', rfl, _, _, _, _, ok⟩ := ruleIn_at hr hi
  rw [← hm, List.getElem?_map] at hi
  obtain ⟨q, hq, e⟩ := Option.map_eq_some_iff.1 hi
  have hil := (List.getElem?_eq_some_iff.1 hq).1
  have hqa : (qs ++ [m])[i]? = some q := by rw [List.getElem?_append_left hil]; exact hq
  obtain ⟨g', e', h0, h1, h2⟩ := row_cells hrow hqa
  cases e'
  have hok : RuleV W q.1 q'.2.1.1 q'.2.1.2.1 q'.2.1.2.2 q'.2.2.1 q'.2.2.2.1 q'.2.2.2.2 := by rw [e]; exact ok
  have := (hv.own i q hq).rule hok
  rw [← e]
  refine ⟨g, 0, rfl, q.2.1.1, q.2.1.2.1, q.2.1.2.2, q.2.2.1, q.2.2.2.1, q.2.2.2.2, ?_, ?_, ?_, this⟩
  · rw [Nat.zero_add]; exact h0
  · rw [Nat.zero_add]; exact h1
  · rw [Nat.zero_add]; exact h2
theorem pruneGo_len (i : Nat) (l : List Rule) : ((pruneGo i l).2.getD []).length ≤ l.length := by
  induction i generalizing l with
  | zero => exact Nat.le_refl _
  | succ i ih =>
    cases hx : l[i]? with
    | none =>
      rw [pruneGo, hx]
      exact ih l
    | some x =>
      rw [pruneGo_step hx]
      cases scanW x (l.eraseIdx i) with
      | err e => exact Nat.zero_le _
      | yes => exact Nat.le_trans (ih _) (List.length_eraseIdx_le _ _)
      | no => exact ih l
theorem prune_len (rs : List Rule) : ((prune rs).2.getD []).length ≤ rs.length := by
  unfold prune
  split
  · exact Nat.zero_le _
  · exact pruneGo_len _ _
end Go.Proofs.Ytcphjfggjjonpaa
