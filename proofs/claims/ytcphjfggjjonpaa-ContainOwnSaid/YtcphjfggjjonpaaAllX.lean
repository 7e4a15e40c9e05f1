/- Rules in new memory with all their rows: they share no block; their sizes. No code of the program. -/
import Derived.Test.YtcphjfggjjonpaaIv
import Derived.Test.YtcphjfggjjonpaaApart
import Derived.Test.YtcphjfggjjonpaaCore
namespace Go.Proofs.Ytcphjfggjjonpaa
open Go.ChangeShapes Go.WideShapes Go.ChangeAt Go.RowKit
abbrev RuleX := RuleQ × List LitP
def headRow (X : RuleX) : LRow := ⟨.slice X.1.2.1.1 X.1.2.1.2.1 X.1.2.1.2.2, X.1.2.1.2.1, flatT X.1.1.head.terms⟩
def bodyRow (X : RuleX) : LRow := ⟨.slice X.1.2.2.1 X.1.2.2.2.1 X.1.2.2.2.2, X.1.2.2.2.1, flatP X.2⟩
def litRow (p : LitP) : LRow := ⟨slP p, p.2.2.1, flatT p.1.atom.terms⟩
def termRows (X : RuleX) : List LRow := headRow X :: X.2.map litRow
def rowsX (X : RuleX) : List LRow := bodyRow X :: termRows X
def apartL (a b : LRow) : Prop := a.v.ownBlock = none ∨ a.v.ownBlock ≠ b.v.ownBlock
structure newX (w : World) (lo : Nat) (X : RuleX) : Prop where
  ps : X.2.map (·.1) = X.1.1.body
  terms : ∀ l ∈ termRows X, w.ownsRow lo 37 2 l.v l.n l.xs
  body : w.ownsRow lo 43 8 (bodyRow X).v (bodyRow X).n (bodyRow X).xs
  apart : (termRows X).Pairwise apartL
theorem newX_of {w : World} {lo : Nat} {x : Nat → Prop} {q : RuleQ} (h : newQ w lo x q) : ∃ ps, newX w lo (q, ps) := by
  obtain ⟨ps, h1, h2, h3, h4, h5⟩ := NewR.body h
  refine ⟨ps, h1, fun l hl => ?_, h2, ?_⟩
  · rcases List.mem_cons.1 hl with rfl | hl
    · exact NewR.head h
    · obtain ⟨p, hp, rfl⟩ := List.mem_map.1 hl
      exact h3 p hp
  · have h6 : ((termRows (q, ps)).map (·.v)).Pairwise fun a b => a.ownBlock = none ∨ a.ownBlock ≠ b.ownBlock := by
      have e : (termRows (q, ps)).map (·.v) = .slice q.2.1.1 q.2.1.2.1 q.2.1.2.2 :: ps.map slP := by
        simp [termRows, headRow, litRow, List.map_map, Function.comp_def]
      rw [e]
      exact h4
    exact List.Pairwise.imp (fun hh => hh) (List.pairwise_map.1 h6 : (termRows (q, ps)).Pairwise fun a b => a.v.ownBlock = none ∨ a.v.ownBlock ≠ b.v.ownBlock)
theorem row_unique {w : World} {b b' size n : Nat} {e : TypeId} {v : Value} {xs ys : List Value} (h : w.ownsRow b e size v n xs) (k : w.ownsRow b' e size v n ys) : xs = ys := by
  have h1 := h.1
  have k1 := k.1
  rcases h.2 with ⟨rfl, h0⟩ | ⟨g, cap, cur, rfl, _, hg, _, _, _, ht⟩
  · subst h0
    have e1 : xs = [] := List.eq_nil_of_length_eq_zero (by simpa using h1)
    have e2 : ys = [] := List.eq_nil_of_length_eq_zero (by simpa using k1)
    rw [e1, e2]
  · rcases k.2 with ⟨k2, _⟩ | ⟨g', cap', cur', k2, _, hg', _, _, _, ht'⟩
    · cases k2
    · cases k2
      rw [hg] at hg'
      cases hg'
      rw [← ht, ← ht']
theorem flatP_inj : ∀ (ps qs : List LitP), ps.map (·.1) = qs.map (·.1) → flatP ps = flatP qs → ps = qs := by
  intro ps
  induction ps with
  | nil =>
    intro qs h _
    cases qs with
    | nil => rfl
    | cons q l => cases h
  | cons p l ih =>
    intro qs h hf
    cases qs with
    | nil => cases h
    | cons q l' =>
      rw [List.map_cons, List.map_cons, List.cons.injEq] at h
      have e : valsP p ++ flatP l = valsP q ++ flatP l' := hf
      obtain ⟨e1, e2⟩ := List.append_inj e rfl
      rw [ih l' h.2 e2]
      have e3 : p = q := by
        obtain ⟨p1, p2, p3, p4⟩ := p
        obtain ⟨q1, q2, q3, q4⟩ := q
        obtain rfl : p1 = q1 := h.1
        simp [valsP, litVals] at e1
        obtain ⟨rfl, rfl, rfl⟩ := e1
        rfl
      rw [e3]
/-- Where the rows lie. -/
theorem newX.where_ {w : World} {lo lo' : Nat} {x : Nat → Prop} {X : RuleX} (h : newX w lo X) (hq : newQ w lo' x X.1) : ∀ l ∈ rowsX X, ∀ b, l.v.ownBlock = some b → lo' ≤ b ∧ ¬ x b := by
  obtain ⟨ps, h1, h2, h3, h4, h5, h6⟩ := NewR.row hq
  obtain ⟨q, ps'⟩ := X
  obtain rfl : ps' = ps := flatP_inj ps' ps (h.ps.trans h1.symm) (row_unique h.body h2)
  have hv : ∀ l ∈ rowsX (q, ps'), l.v ∈ Value.slice q.2.2.1 q.2.2.2.1 q.2.2.2.2 :: .slice q.2.1.1 q.2.1.2.1 q.2.1.2.2 :: ps'.map slP := fun l hl => by
    rcases List.mem_cons.1 hl with rfl | hl
    · exact List.mem_cons_self
    · rcases List.mem_cons.1 hl with rfl | hl
      · exact List.mem_cons_of_mem _ List.mem_cons_self
      · obtain ⟨p, hp, rfl⟩ := List.mem_map.1 hl
        exact List.mem_cons_of_mem _ (List.mem_cons_of_mem _ (List.mem_map.2 ⟨p, hp, rfl⟩))
  exact fun l hl b hb => ⟨(h6 _ (hv l hl) b hb).1, h5 _ (hv l hl) b hb⟩
theorem newX.lt {w : World} {lo : Nat} {X : RuleX} (h : newX w lo X) : ∀ l ∈ rowsX X, ∀ b, l.v.ownBlock = some b → lo ≤ b ∧ b < w.heap.size := fun l hl b hb => by
  rcases List.mem_cons.1 hl with rfl | hl
  · exact h.body.lt b hb
  · exact (h.terms l hl).lt b hb
theorem newX.ext {w w' : World} {lo : Nat} {X : RuleX} (h : newX w lo X) (e : Ext w w') : newX w' lo X := ⟨h.ps, fun l hl => up_ext (h.terms l hl) e, up_ext h.body e, h.apart⟩
theorem newX.mono {w : World} {lo lo' : Nat} {X : RuleX} (h : newX w lo X) (hl : lo' ≤ lo) : newX w lo' X := ⟨h.ps, fun l hx => own_base (h.terms l hx) hl, own_base h.body hl, h.apart⟩
/-- The rows of the one lie below a block from which on those of the other lie. -/
def sepX (p q : RuleX) : Prop := ∃ m, (∀ l ∈ rowsX p, ∀ b, l.v.ownBlock = some b → b < m) ∧ ∀ l ∈ rowsX q, ∀ b, l.v.ownBlock = some b → m ≤ b
structure AllX (w : World) (lo : Nat) (AX : List RuleX) : Prop where
  rules : ∀ X ∈ AX, newX w lo X
  sep : AX.Pairwise sepX
theorem AllX.ext {w w' : World} {lo : Nat} {AX : List RuleX} (h : AllX w lo AX) (e : Ext w w') : AllX w' lo AX := ⟨fun X hX => (h.rules X hX).ext e, h.sep⟩
theorem pair_list {α β : Type} {P : α × β → Prop} (l : List α) (h : ∀ a ∈ l, ∃ b, P (a, b)) : ∃ L : List (α × β), L.map (·.1) = l ∧ ∀ x ∈ L, P x := by
  induction l with
  | nil => exact ⟨[], rfl, fun _ h => (by cases h)⟩
  | cons a l ih =>
    obtain ⟨b, hb⟩ := h a List.mem_cons_self
    obtain ⟨L, h1, h2⟩ := ih fun x hx => h x (List.mem_cons_of_mem _ hx)
    exact ⟨(a, b) :: L, by rw [List.map_cons, h1], fun x hx => by
      rcases List.mem_cons.1 hx with rfl | hx
      · exact hb
      · exact h2 x hx⟩
theorem AllX.of {w : World} {lo : Nat} {qs : List RuleQ} {v : Value} (h : NewQs w lo qs v) : ∃ AX : List RuleX, AX.map (·.1) = qs ∧ AllX w lo AX := by
  obtain ⟨AX, h1, h2⟩ := pair_list (P := fun X : RuleX => newX w lo X) qs fun q hq => newX_of (h.rules q hq)
  refine ⟨AX, h1, h2, ?_⟩
  have h3 := h.apart
  rw [← h1] at h3
  refine (List.pairwise_map.1 h3).imp_of_mem fun {p q} hp hq ⟨m, k1, k2⟩ => ⟨m, fun l hl b hb => ?_, fun l hl b hb => ((h2 q hq).where_ k2 l hl b hb).1⟩
  have := ((h2 p hp).where_ k1 l hl b hb).2
  omega
theorem AllX.one {w : World} {lo : Nat} {q : RuleQ} {x : Nat → Prop} (h : newQ w lo x q) : ∃ ps, AllX w lo [(q, ps)] := by
  obtain ⟨ps, h1⟩ := newX_of h
  exact ⟨ps, fun X hX => by cases List.mem_singleton.1 hX; exact h1, List.pairwise_singleton _ _⟩
theorem AllX.append {w0 w : World} {lo m : Nat} {A B : List RuleX} (hA0 : AllX w0 lo A) (hA : AllX w lo A) (hB : AllX w m B) (h0 : w0.heap.size ≤ m) (hl : lo ≤ m) : AllX w lo (A ++ B) := by
  refine ⟨fun X hX => ?_, List.pairwise_append.2 ⟨hA.sep, hB.sep, fun p hp q hq => ⟨m, fun l hl b hb => ?_, fun l hl b hb => ((hB.rules q hq).lt l hl b hb).1⟩⟩⟩
  · rcases List.mem_append.1 hX with hX | hX
    · exact hA.rules X hX
    · exact (hB.rules X hX).mono hl
  · have := ((hA0.rules p hp).lt l hl b hb).2
    omega
theorem sep_apart {p q : RuleX} (h : sepX p q) {a b : LRow} (ha : a ∈ rowsX p) (hb : b ∈ rowsX q) : apartL a b := by
  obtain ⟨m, h1, h2⟩ := h
  cases hx : a.v.ownBlock with
  | none => exact .inl hx
  | some x =>
    refine .inr fun e => ?_
    have k1 := h1 a ha x hx
    have k2 := h2 b hb x (by rw [← e]; exact hx)
    omega
theorem AllX.lists {w : World} {lo : Nat} {AX : List RuleX} (h : AllX w lo AX) : (AX.flatMap termRows).Pairwise apartL := by
  rw [List.pairwise_flatMap]
  exact ⟨fun X hX => (h.rules X hX).apart, h.sep.imp fun hs a ha b hb => sep_apart hs (List.mem_cons_of_mem _ ha) (List.mem_cons_of_mem _ hb)⟩
theorem AllX.bodies {w : World} {lo : Nat} {AX : List RuleX} (h : AllX w lo AX) : (AX.map bodyRow).Pairwise apartL :=
  List.pairwise_map.2 (h.sep.imp fun hs => sep_apart hs List.mem_cons_self List.mem_cons_self)
/-- What sizes a rule has. -/
def smallX (r : Rule) : Prop := RuleB r ∧ r.body.length ≤ 64
theorem newX.n {w : World} {lo : Nat} {X : RuleX} (h : newX w lo X) (hb : smallX X.1.1) : (∀ l ∈ termRows X, l.n ≤ 5864062014634) ∧ (bodyRow X).n ≤ 64 ∧ X.2.length = (bodyRow X).n := by
  have h1 : X.2.length = X.1.1.body.length := by rw [← h.ps, List.length_map]
  have h2 : X.2.length = (bodyRow X).n := by
    have := h.body.1
    rw [show (bodyRow X).xs = flatP X.2 from rfl, flatP_len] at this
    omega
  refine ⟨fun l hl => ?_, by have := hb.2; omega, h2⟩
  have ht := h.terms l hl
  rcases List.mem_cons.1 hl with rfl | hl
  · have := ht.1
    rw [show (headRow X).xs = flatT X.1.1.head.terms from rfl, flatT_len] at this
    have := hb.1.nh
    omega
  · obtain ⟨p, hp, rfl⟩ := List.mem_map.1 hl
    have := ht.1
    rw [show (litRow p).xs = flatT p.1.atom.terms from rfl, flatT_len] at this
    have h3 : p.1 ∈ X.1.1.body := by rw [← h.ps]; exact List.mem_map.2 ⟨p, hp, rfl⟩
    have := (hb.1.lits p.1 h3).1
    omega
theorem lists_len {AX : List RuleX} (h : ∀ X ∈ AX, X.2.length ≤ 64) : (AX.flatMap termRows).length ≤ AX.length * 65 := by
  induction AX with
  | nil => simp
  | cons X l ih =>
    have h1 := ih fun Y hY => h Y (List.mem_cons_of_mem _ hY)
    have h2 := h X List.mem_cons_self
    rw [List.flatMap_cons, List.length_append, List.length_cons]
    have h3 : (termRows X).length = X.2.length + 1 := by simp [termRows]
    omega
theorem mayRule_small {r : Rule} (h : mayRule r = 0) : r.body.length ≤ 64 := by
  unfold mayRule at h
  split at h
  · rename_i h1
    exact absurd h h1
  · split at h
    · cases h
    · omega
theorem minGo_len (f : Nat) : ∀ (out : Rule) (i : Nat) (m : Rule), (minGo f out i).2 = some m → m.body.length ≤ out.body.length := by
  induction f with
  | zero =>
    intro out i m h
    cases h
    exact Nat.le_refl _
  | succ f ih =>
    intro out i m h
    rw [minGo] at h
    split at h
    · rename_i hi
      split at h
      · exact ih _ _ _ h
      · split at h
        · cases h
        · split at h
          · have h1 := ih _ _ _ h
            have h2 := less_len hi
            omega
          · exact ih _ _ _ h
    · cases h
      exact Nat.le_refl _
theorem minimal_small (r : Rule) : ((minimal r).2.getD noRule).body.length ≤ 64 := by
  cases h : (minimal r).2 with
  | none => exact Nat.zero_le _
  | some m =>
    obtain ⟨h0, h1, h2⟩ := minimal_some h
    have h3 := minGo_len _ _ _ _ h2
    have h4 := mayRule_small (plain_may h1).1
    show m.body.length ≤ 64
    omega
theorem pruneGo_mem (i : Nat) : ∀ (l : List Rule), ∀ r ∈ (pruneGo i l).2.getD [], r ∈ l := by
  induction i with
  | zero => intro l r h; exact h
  | succ i ih =>
    intro l r h
    cases hx : l[i]? with
    | none =>
      rw [pruneGo, hx] at h
      exact ih l r h
    | some x =>
      rw [pruneGo_step hx] at h
      cases hs : scanW x (l.eraseIdx i) with
      | err e => rw [hs] at h; cases h
      | yes => rw [hs] at h; exact List.mem_of_mem_eraseIdx (ih _ r h)
      | no => rw [hs] at h; exact ih l r h
theorem mayRules_all {rs : List Rule} (h : mayRules rs = 0) : ∀ r ∈ rs, mayRule r = 0 := by
  induction rs with
  | nil => intro r hr; cases hr
  | cons x l ih =>
    intro r hr
    rw [mayRules] at h
    split at h
    · rename_i h1
      exact absurd h h1
    · rename_i h1
      rcases List.mem_cons.1 hr with rfl | hr
      · exact Decidable.not_not.1 h1
      · exact ih h r hr
theorem prune_small (rs : List Rule) : ((prune rs).2.getD []).length ≤ 1024 ∧ ∀ r ∈ (prune rs).2.getD [], r.body.length ≤ 64 := by
  unfold prune
  split
  · exact ⟨Nat.zero_le _, fun r hr => by cases hr⟩
  · rename_i h
    have h := Decidable.not_not.1 h
    unfold mayProg at h
    split at h
    · cases h
    · rename_i h1
      exact ⟨Nat.le_trans (pruneGo_len _ _) (by omega), fun r hr => mayRule_small (mayRules_all h r (pruneGo_mem _ _ r hr))⟩
end Go.Proofs.Ytcphjfggjjonpaa
