/- Rules in new memory, one behind another; a step of a region that puts one more into their row. -/
import Derived.Test.YtcphjfggjjonpaaClR
import Derived.Test.YtcphjfggjjonpaaDMin
import Derived.Deep.AppendLies
namespace Go.Proofs.Ytcphjfggjjonpaa
open Go.ChangeShapes Go.WideShapes Go.ChangeAt Go.RowKit
/-- A rule with its lists, in new memory. -/
def newQ (w : World) (lo : Nat) (x : Nat → Prop) (q : RuleQ) : Prop := NewR w lo x q.1 q.2.1.1 q.2.1.2.1 q.2.1.2.2 q.2.2.1 q.2.2.2.1 q.2.2.2.2
/-- Rules in new memory: their row, and each in blocks of its own, rising. -/
structure NewQs (w : World) (lo : Nat) (qs : List RuleQ) (v : Value) : Prop where
  row : w.ownsRow lo 27 3 v qs.length (flatQ qs)
  rules : ∀ q ∈ qs, newQ w lo (fun _ => False) q
  apart : qs.Pairwise fun p q => ∃ m, newQ w lo (fun b => m ≤ b) p ∧ newQ w m (fun _ => False) q
theorem NewQs.nil (w : World) (lo : Nat) : NewQs w lo [] (.slice none 0 0) := ⟨World.ownsRow_nil _ _ _ _, fun _ h => (by cases h), List.Pairwise.nil⟩
theorem NewQs.ext {w w' : World} {lo : Nat} {qs : List RuleQ} {v : Value} (h : NewQs w lo qs v) (e : Ext w w') : NewQs w' lo qs v :=
  ⟨up_ext h.row e, fun q hq => (h.rules q hq).ext e, h.apart.imp fun ⟨m, h1, h2⟩ => ⟨m, NewR.ext h1 e, NewR.ext h2 e⟩⟩
theorem NewQs.mono {w : World} {lo lo' : Nat} {qs : List RuleQ} {v : Value} (h : NewQs w lo qs v) (hl : lo' ≤ lo) : NewQs w lo' qs v :=
  ⟨own_base h.row hl, fun q hq => (h.rules q hq).mono hl, h.apart.imp fun ⟨m, h1, h2⟩ => ⟨m, NewR.mono h1 hl, h2⟩⟩
theorem NewR.lists {w : World} {lo : Nat} {x : Nat → Prop} {r : Rule} {ah : Option Addr} {nh ch : Nat} {ab : Option Addr} {nb cb : Nat} (h : NewR w lo x r ah nh ch ab nb cb) {w' : World}
    (hk : ∀ {b n s : Nat} {e : TypeId} {v : Value} {xs : List Value}, (e = 37 ∨ e = 43) → w.ownsRow b e s v n xs → w'.ownsRow b e s v n xs) : NewR w' lo x r ah nh ch ab nb cb := by
  obtain ⟨ps, h1, h2, h3, h4⟩ := h.body
  exact ⟨hk (.inl rfl) h.head, ps, h1, hk (.inr rfl) h2, fun p hp => hk (.inl rfl) (h3 p hp), h4⟩
theorem NewR.grown {w w' : World} {lo : Nat} {x : Nat → Prop} {r : Rule} {ah : Option Addr} {nh ch : Nat} {ab : Option Addr} {nb cb : Nat} (h : NewR w lo x r ah nh ch ab nb cb) {o : Obj} {b n s : Nat} {v : Value} {xs : List Value} (hv : w.ownsRow b 27 s v n xs) (g : (w.alloc o).grownBy w' v.ownBlock) : NewR w' lo x r ah nh ch ab nb cb :=
  h.lists fun he hh => (hh.alloc o).kept g (own_apart (hh.alloc o) (hv.alloc o) (by rcases he with rfl | rfl <;> decide))
theorem NewQs.set {w : World} {lo : Nat} {qs : List RuleQ} {v : Value} (h : NewQs w lo qs v) {a : Addr} (ha : a.block < lo) (u : Value) : NewQs (w.setCell a u) lo qs v := by
  refine ⟨ownsRow_setCell_below h.row ha u, fun q hq => NewR.set (h.rules q hq) (.inl ha), ?_⟩
  refine h.apart.imp_of_mem fun {p q} hp hq ⟨m, h1, h2⟩ => ?_
  by_cases hm : m ≤ lo
  · exact ⟨lo, NewR.set (NewR.avoid h1 (fun b hb => .inl (Nat.le_trans hm hb))) (.inl ha), NewR.set (h.rules q hq) (.inl ha)⟩
  · exact ⟨m, NewR.set h1 (.inl ha), NewR.set h2 (.inl (by omega))⟩
theorem flatQ_snoc (qs : List RuleQ) (q : RuleQ) : flatQ (qs ++ [q]) = flatQ qs ++ valsQ q := by simp [flatQ]
theorem NewQs.push {w w' : World} {lo m : Nat} {qs : List RuleQ} {v v' : Value} {q : RuleQ} (h : NewQs w lo qs v) {o : Obj} (g : (w.alloc o).grownBy w' v.ownBlock) (hrow : w'.ownsRow lo 27 3 v' (qs ++ [q]).length (flatQ (qs ++ [q]))) (hlo : lo ≤ m) (hm : ∀ p ∈ qs, newQ w lo (fun b => m ≤ b) p) (hq : newQ w m (fun _ => False) q) : NewQs w' lo (qs ++ [q]) v' := by
  have hg : ∀ {lo x p}, newQ w lo x p → newQ w' lo x p := fun hp => NewR.grown hp h.row g
  refine ⟨hrow, fun p hp => ?_, ?_⟩
  · rcases List.mem_append.1 hp with hp | hp
    · exact hg (h.rules p hp)
    · cases List.mem_singleton.1 hp
      exact hg (NewR.mono hq hlo)
  · refine List.pairwise_append.2 ⟨h.apart.imp fun ⟨m, h1, h2⟩ => ⟨m, hg h1, hg h2⟩, List.pairwise_singleton _ _, fun p hp y hy => ?_⟩
    cases List.mem_singleton.1 hy
    exact ⟨m, hg (hm p hp), hg hq⟩
theorem NewR.top {w : World} {lo : Nat} {x : Nat → Prop} {r : Rule} {ah : Option Addr} {nh ch : Nat} {ab : Option Addr} {nb cb : Nat} (h : NewR w lo x r ah nh ch ab nb cb) {m : Nat} (hm : w.heap.size ≤ m) : NewR w lo (fun b => m ≤ b) r ah nh ch ab nb cb := h.avoid fun _ hb => .inr (.inr (Nat.le_trans hm hb))
theorem newQ_rule {w : World} {lo : Nat} {x : Nat → Prop} {q : RuleQ} (h : newQ w lo x q) (hb : RuleB q.1) : okQ w q := NewR.rule h hb
theorem NewQs.rulesAt {w : World} {lo : Nat} {qs : List RuleQ} {a : Option Addr} {n c : Nat} (h : NewQs w lo qs (.slice a n c)) (hn : n = qs.length) (hb : ∀ q ∈ qs, RuleB q.1) (hl : n ≤ 2199023255488) : RulesAt w a n (qs.map (·.1)) := by
  subst hn
  refine ⟨hl, List.length_map _, fun i r hi => ?_⟩
  rw [List.getElem?_map] at hi
  obtain ⟨q, hq, rfl⟩ := Option.map_eq_some_iff.1 hi
  have hil := (List.getElem?_eq_some_iff.1 hq).1
  rcases h.row.2 with ⟨h1, h0⟩ | ⟨g, c', cur, hv, _⟩
  · omega
  · cases hv
    have hc : ∀ j u, (valsQ q)[j]? = some u → w.cell? ⟨g, 0 + i * 3 + j, none⟩ = some u := fun j u hu => by
      have h3 : j < 3 := (List.getElem?_eq_some_iff.1 hu).1
      have := h.row.cells (g := g) rfl (i * 3 + j) u (by rw [flatQ_get qs i j q hq h3]; exact hu)
      rw [Addr.add_lit] at this
      rw [show 0 + i * 3 + j = 0 + (i * 3 + j) by omega]
      exact this
    have hm : q ∈ qs := List.mem_of_getElem? hq
    exact ⟨g, 0, rfl, q.2.1.1, q.2.1.2.1, q.2.1.2.2, q.2.2.1, q.2.2.2.1, q.2.2.2.2, hc 0 _ rfl, hc 1 _ rfl, hc 2 _ rfl, newQ_rule (h.rules q hm) (hb q hm)⟩
theorem news_three (w : World) (u0 u1 u2 : Value) (t : TypeId) : ∀ j x, [u0, u1, u2][j]? = some x → (w.alloc (.cells #[u0, u1, u2] t)).cell? ((⟨w.heap.size, 0, none⟩ : Addr).add j) = some x := by
  intro j x hx
  rw [Addr.add_lit, World.cell?_alloc_new, Nat.zero_add]
  simpa using hx
/-- At a step of a drawn region: one more rule. -/
theorem step_push_rule {ops : Array Oper} {o : Oper} {a : Act} {K : Act → World → Prop} {Q : Exit → Act → World → Prop} {E : Prop} (W0 : World) (base : Nat) (v : Value) (n : Nat) (qs : List RuleQ) (q : RuleQ) (hown : W0.ownsRow base 27 3 v n (flatQ qs)) (hbig : n + 1 ≤ 2199023255488) (hbase : base ≤ W0.heap.size)
    (hgd : o.guard = none) (s x : Operand) (ho : o.op = .call { callee := .builtin .append, args := #[s, x], argTypes := #[55, 55] }) (hs : a.eval s = v) (hx : a.eval x = .slice (some ⟨W0.heap.size, 0, none⟩) 1 1)
    (h : ∀ g cap w', w'.ownsRow base 27 3 (.slice (some ⟨g, 0, none⟩) (n + 1) cap) (n + 1) (flatQ (qs ++ [q])) → (W0.alloc (.cells #[.string q.1.head.pred, .slice q.2.1.1 q.2.1.2.1 q.2.1.2.2, .slice q.2.2.1 q.2.2.2.1 q.2.2.2.2] 27)).grownBy w' v.ownBlock → K (a.put o.dst (.slice (some ⟨g, 0, none⟩) (n + 1) cap)) w') :
    if Region.wanted o (yielded ops a.tmps) = true then Oper.wp Try.prog o a (W0.alloc (.cells #[.string q.1.head.pred, .slice q.2.1.1 q.2.1.2.1 q.2.1.2.2, .slice q.2.2.1 q.2.2.2.1 q.2.2.2.2] 27)) K Q else E := by
  obtain ⟨i0, hi, hz0, hz1, hz2⟩ := info_parts info_rule
  refine step_append_lies _ hgd s x 55 ho base 27 i0 (.agg #[.string ⟨#[]⟩, .slice none 0 0, .slice none 0 0]) 3 64 Try.underlying55 hi hz0 hz1 hz2 rfl (by omega) v n (flatQ qs) hs (hown.alloc _) ⟨W0.heap.size, 0, none⟩ 1 1 [.string q.1.head.pred, .slice q.2.1.1 q.2.1.2.1 q.2.1.2.2, .slice q.2.2.1 q.2.2.2.1 q.2.2.2.2] hx rfl (news_three W0 _ _ _ _) (by intro u hu; simp at hu; rcases hu with rfl | rfl | rfl <;> rfl) (by omega) (by unfold maxLen; omega) (by omega) (by simp; omega) (W0.heap.size + 1) (by simp) (fun g cap w1 hown1 hgrow hat hlt1 => h g cap w1 ?_ hgrow)
  rw [flatQ_snoc]
  exact hown1
/-- Before round k of the loop that hands the rules out: in the variable's block bo lies the row of the first k, all else is new. -/
structure OutSt (W : World) (bo : Nat) (rs : List Rule) (k : Nat) (w : World) : Prop where
  old : Ext W w
  size : bo < w.heap.size
  free : w.frozen? ⟨bo, 0, none⟩ = false
  row : ∃ qs a c, w.cell? ⟨bo, 0, none⟩ = some (.slice a qs.length c) ∧ qs.map (·.1) = rs.take k ∧ NewQs w (bo + 1) qs (.slice a qs.length c)
theorem OutSt.push {W w w7 : World} {bo k : Nat} {rs : List Rule} {q : RuleQ} {qs : List RuleQ} {a : Option Addr} {c : Nat} {o : Obj} {m g cap : Nat} (hold : Ext W w) (hb : W.heap.size ≤ bo) (hsz : bo < w.heap.size) (hfr : w.frozen? ⟨bo, 0, none⟩ = false) (hcell : w.cell? ⟨bo, 0, none⟩ = some (.slice a qs.length c)) (hmap : qs.map (·.1) = rs.take k) (hN : NewQs w (bo + 1) qs (.slice a qs.length c))
    (hr : rs[k]? = some q.1) (hlo : bo + 1 ≤ m) (hm : ∀ p ∈ qs, newQ w (bo + 1) (fun b => m ≤ b) p) (hq : newQ w m (fun _ => False) q)
    (hrow : w7.ownsRow (bo + 1) 27 3 (.slice (some ⟨g, 0, none⟩) (qs.length + 1) cap) (qs.length + 1) (flatQ (qs ++ [q]))) (hg : (w.alloc o).grownBy w7 (Value.slice a qs.length c).ownBlock) :
    w7.cell? ⟨bo, 0, none⟩ = some (.slice a qs.length c) ∧ w7.frozen? ⟨bo, 0, none⟩ = false ∧ OutSt W bo rs (k + 1) (w7.setCell ⟨bo, 0, none⟩ (.slice (some ⟨g, 0, none⟩) (qs.length + 1) cap)) := by
  have ha : bo < (w.alloc o).heap.size := by simp; omega
  have hne : some bo ≠ (Value.slice a qs.length c).ownBlock := fun e => by
    have := (hN.row.lt bo e.symm).1
    omega
  have hbk := hg.block bo ha hne
  have hba : (w.alloc o).heap[bo]? = w.heap[bo]? := (ext_alloc (Below.refl _ w : Ext w w) o).block bo hsz
  have c7 : w7.cell? ⟨bo, 0, none⟩ = some (.slice a qs.length c) := by
    rw [← hcell]
    exact World.cell?_of_block (hbk.trans hba)
  have f7 : w7.frozen? ⟨bo, 0, none⟩ = false := by
    rw [← hfr]
    unfold World.frozen?
    simp only
    rw [hbk, hba]
  refine ⟨c7, f7, ⟨ext_set (ext_ownB (ext_alloc hold o) hg (fun g e => by have := (hN.row.lt g e).1; omega)) hb _, ?_, ?_, qs ++ [q], some ⟨g, 0, none⟩, cap, ?_, ?_, ?_⟩⟩
  · have := hg.size
    simp at this ⊢
    omega
  · rw [World.frozen?_setCell]
    exact f7
  · rw [List.length_append]
    exact World.cell?_setCell_same _ _ _ c7
  · rw [List.map_append, hmap, take_at hr]
    rfl
  · refine (NewQs.push hN hg ?_ hlo hm hq).set (Nat.lt_succ_self bo) _
    rw [List.length_append]
    exact hrow
theorem row_cells {w : World} {base n : Nat} {a : Option Addr} {c : Nat} {qs : List RuleQ} (h : w.ownsRow base 27 3 (.slice a n c) n (flatQ qs)) {i : Nat} {q : RuleQ} (hq : qs[i]? = some q) : ∃ g, a = some ⟨g, 0, none⟩ ∧ w.cell? ⟨g, i * 3, none⟩ = some (.string q.1.head.pred) ∧ w.cell? ⟨g, i * 3 + 1, none⟩ = some (.slice q.2.1.1 q.2.1.2.1 q.2.1.2.2) ∧ w.cell? ⟨g, i * 3 + 2, none⟩ = some (.slice q.2.2.1 q.2.2.2.1 q.2.2.2.2) := by
  have hi := (List.getElem?_eq_some_iff.1 hq).1
  have hl := h.1
  rw [flatQ_len] at hl
  rcases h.2 with ⟨h1, h0⟩ | ⟨g, c', cur, hv, _⟩
  · omega
  · cases hv
    have hc : ∀ j u, (valsQ q)[j]? = some u → w.cell? ⟨g, i * 3 + j, none⟩ = some u := fun j u hu => by
      have h3 : j < 3 := (List.getElem?_eq_some_iff.1 hu).1
      have := h.cells (g := g) rfl (i * 3 + j) u (by rw [flatQ_get qs i j q hq h3]; exact hu)
      rw [Addr.add_lit, Nat.zero_add] at this
      exact this
    exact ⟨g, rfl, hc 0 _ rfl, hc 1 _ rfl, hc 2 _ rfl⟩
/-- What Prune answers. -/
def PrunePost (R : Int × Option (List Rule)) (w : World) (e : Ending) (w' : World) : Prop := ∃ a' n' c' qs, e = .returned (.tuple #[.agg #[.slice a' n' c'], .int .i64 R.1]) ∧ n' = qs.length ∧ qs.map (·.1) = R.2.getD [] ∧ (∀ q ∈ qs, RuleB q.1) ∧ NewQs w' w.heap.size qs (.slice a' n' c') ∧ Ext w w'
theorem PrunePost.none {R : Int × Option (List Rule)} {w w' : World} {x : Int} (h : R = (x, Option.none)) (e : Ext w w') : PrunePost R w (.returned (.tuple #[.agg #[.slice Option.none 0 0], .int .i64 x])) w' :=
  ⟨Option.none, 0, 0, [], by rw [h], rfl, by rw [h]; rfl, fun _ h => (by cases h), NewQs.nil _ _, e⟩
end Go.Proofs.Ytcphjfggjjonpaa
