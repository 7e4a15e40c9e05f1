/- The walk of contain.own: what it answers is new memory. -/
import Derived.Test.YtcphjfggjjonpaaOwnC
namespace Go.Proofs.Ytcphjfggjjonpaa
open Go.ChangeShapes Go.WideShapes Go.ChangeAt Go.RowKit
theorem own_set_other {w : World} {base n size : Nat} {e : TypeId} {v : Value} {xs : List Value} (h : w.ownsRow base e size v n xs) {a : Addr} (hne : v.ownBlock = none ∨ v.ownBlock ≠ some a.block) (u : Value) : (w.setCell a u).ownsRow base e size v n xs :=
  h.kept (row := some a.block) ⟨rfl, rfl, rfl, by simp, fun k _ hk => heap_setCell_other w a k u (fun e => hk (by simp [e]))⟩ hne
def slP (p : LitP) : Value := .slice p.2.1 p.2.2.1 p.2.2.2
/-- Slices in blocks of their own. -/
def Apart (vs : List Value) : Prop := vs.Pairwise fun a b => a.ownBlock = none ∨ a.ownBlock ≠ b.ownBlock
/-- A rule in new memory, no block below lo, none that x names, each list in a block of its own. -/
structure NewR (w : World) (lo : Nat) (x : Nat → Prop) (r : Rule) (ah : Option Addr) (nh ch : Nat) (ab : Option Addr) (nb cb : Nat) : Prop where
  head : w.ownsRow lo 37 2 (.slice ah nh ch) nh (flatT r.head.terms)
  body : ∃ ps : List LitP, ps.map (·.1) = r.body ∧ w.ownsRow lo 43 8 (.slice ab nb cb) nb (flatP ps) ∧ (∀ p ∈ ps, w.ownsRow lo 37 2 (slP p) p.2.2.1 (flatT p.1.atom.terms)) ∧ Apart (.slice ah nh ch :: ps.map slP) ∧
    ∀ v ∈ Value.slice ab nb cb :: .slice ah nh ch :: ps.map slP, ∀ b, v.ownBlock = some b → ¬ x b
theorem NewR.row {w : World} {lo : Nat} {x : Nat → Prop} {r : Rule} {ah : Option Addr} {nh ch : Nat} {ab : Option Addr} {nb cb : Nat} (h : NewR w lo x r ah nh ch ab nb cb) : ∃ ps : List LitP, ps.map (·.1) = r.body ∧ w.ownsRow lo 43 8 (.slice ab nb cb) nb (flatP ps) ∧ (∀ p ∈ ps, w.ownsRow lo 37 2 (slP p) p.2.2.1 (flatT p.1.atom.terms)) ∧ Apart (.slice ah nh ch :: ps.map slP) ∧
    (∀ v ∈ Value.slice ab nb cb :: .slice ah nh ch :: ps.map slP, ∀ b, v.ownBlock = some b → ¬ x b) ∧ ∀ v ∈ Value.slice ab nb cb :: .slice ah nh ch :: ps.map slP, ∀ b, v.ownBlock = some b → lo ≤ b ∧ b < w.heap.size := by
  obtain ⟨ps, h1, h2, h3, h4, h5⟩ := h.body
  refine ⟨ps, h1, h2, h3, h4, h5, fun v hv b hb => ?_⟩
  rcases List.mem_cons.1 hv with rfl | hv
  · exact h2.lt b hb
  · rcases List.mem_cons.1 hv with rfl | hv
    · exact h.head.lt b hb
    · obtain ⟨p, hp, rfl⟩ := List.mem_map.1 hv
      exact (h3 p hp).lt b hb
theorem NewR.avoid {w : World} {lo : Nat} {x y : Nat → Prop} {r : Rule} {ah : Option Addr} {nh ch : Nat} {ab : Option Addr} {nb cb : Nat} (h : NewR w lo x r ah nh ch ab nb cb) (hy : ∀ b, y b → x b ∨ b < lo ∨ w.heap.size ≤ b) : NewR w lo y r ah nh ch ab nb cb := by
  obtain ⟨ps, h1, h2, h3, h4, h5, h6⟩ := h.row
  exact ⟨h.head, ps, h1, h2, h3, h4, fun v hv b e hb => by
    have h7 := h6 v hv b e
    rcases hy b hb with h8 | h8
    · exact h5 v hv b e h8
    · omega⟩
theorem NewR.set {w : World} {lo : Nat} {x : Nat → Prop} {r : Rule} {ah : Option Addr} {nh ch : Nat} {ab : Option Addr} {nb cb : Nat} (h : NewR w lo x r ah nh ch ab nb cb) {a : Addr} (ha : a.block < lo ∨ x a.block) {u : Value} : NewR (w.setCell a u) lo x r ah nh ch ab nb cb := by
  obtain ⟨ps, h1, h2, h3, h4, h5, h6⟩ := h.row
  have far : ∀ v ∈ Value.slice ab nb cb :: .slice ah nh ch :: ps.map slP, v.ownBlock = none ∨ v.ownBlock ≠ some a.block := fun v hv => .inr fun e => by
    rcases ha with ha | ha
    · have := h6 v hv _ e
      omega
    · exact h5 v hv _ e ha
  exact ⟨own_set_other h.head (far _ (by simp)) u, ps, h1, own_set_other h2 (far _ (by simp)) u, fun p hp => own_set_other (h3 p hp) (far _ (by simp only [List.mem_cons, List.mem_map]; exact .inr (.inr ⟨p, hp, rfl⟩))) u, h4, h5⟩
theorem NewR.ext {w w' : World} {lo : Nat} {x : Nat → Prop} {r : Rule} {ah : Option Addr} {nh ch : Nat} {ab : Option Addr} {nb cb : Nat} (h : NewR w lo x r ah nh ch ab nb cb) (e : Ext w w') : NewR w' lo x r ah nh ch ab nb cb := by
  obtain ⟨ps, h1, h2, h3, h4⟩ := h.body
  exact ⟨h.head.kept (gb_of_ext e none) (by cases (Value.slice ah nh ch).ownBlock <;> simp), ps, h1, h2.kept (gb_of_ext e none) (by cases (Value.slice ab nb cb).ownBlock <;> simp), fun p hp => (h3 p hp).kept (gb_of_ext e none) (by cases (slP p).ownBlock <;> simp), h4⟩
theorem NewR.mono {w : World} {lo lo' : Nat} {x : Nat → Prop} {r : Rule} {ah : Option Addr} {nh ch : Nat} {ab : Option Addr} {nb cb : Nat} (h : NewR w lo x r ah nh ch ab nb cb) (hl : lo' ≤ lo) : NewR w lo' x r ah nh ch ab nb cb := by
  obtain ⟨ps, h1, h2, h3, h4⟩ := h.body
  exact ⟨own_base h.head hl, ps, h1, own_base h2 hl, fun p hp => own_base (h3 p hp) hl, h4⟩
theorem flatP_set (ps : List LitP) (k : Nat) (p : LitP) (hk : ps[k]? = some p) (a' : Option Addr) (n' c' : Nat) : flatP (ps.set k (p.1, a', n', c')) = (flatP ps).set (k * 8 + 2) (.slice a' n' c') := by
  induction ps generalizing k with
  | nil => simp at hk
  | cons q ps ih =>
    have e : flatP (q :: ps) = valsP q ++ flatP ps := rfl
    cases k with
    | zero =>
      simp at hk
      subst hk
      rw [List.set_cons_zero, e, show flatP ((q.1, a', n', c') :: ps) = valsP (q.1, a', n', c') ++ flatP ps from rfl, List.set_append_left _ _ (by simp [valsP, litVals])]
      simp [valsP, litVals]
    | succ k =>
      have hl : (valsP q).length = 8 := by simp [valsP, litVals]
      rw [List.set_cons_succ, e, show flatP (q :: ps.set k (p.1, a', n', c')) = valsP q ++ flatP (ps.set k (p.1, a', n', c')) from rfl, ih k (by simpa using hk), List.set_append_right _ _ (by rw [hl]; omega), hl, show (k + 1) * 8 + 2 - 8 = k * 8 + 2 by omega]
theorem litp_eq {w : World} {base : Nat} {g n c : Nat} {ps qs : List LitP} {k : Nat} {p q : LitP} (hps : ps.map (·.1) = qs.map (·.1)) (h : w.ownsRow base 43 8 (.slice (some ⟨g, 0, none⟩) n c) n (flatP ps)) (h2 : RowC w (some ⟨g, 0, none⟩) n qs) (hp : ps[k]? = some p) (hq : qs[k]? = some q) : p = q := by
  obtain ⟨g0, e0, C0⟩ := h2.2 k q hq
  cases e0
  obtain ⟨g1, e1, C1⟩ := (RowC.of h).2 k p hp
  cases e1
  have e2 := (C0 2 _ rfl).symm.trans (C1 2 _ rfl)
  have e3 : p.1 = q.1 := by
    have := congrArg (fun l => l[k]?) hps
    simp only [List.getElem?_map, hp, hq] at this
    simpa using this
  obtain ⟨l, a, m, d⟩ := p
  obtain ⟨l', a', m', d'⟩ := q
  cases e3
  simp only [Option.some.injEq, Value.slice.injEq] at e2
  obtain ⟨rfl, rfl, rfl⟩ := e2
  rfl
/-- Before round k of the copying. -/
structure CopyN (w0 : World) (r : Rule) (ah : Option Addr) (nh ch : Nat) (ab : Option Addr) (nb cb : Nat) (k : Nat) (w : World) : Prop where
  st : CopySt w0 r ah nh ch ab nb cb w
  head : w.ownsRow (w0.heap.size + 2) 37 2 (.slice ah nh ch) nh (flatT r.head.terms)
  body : ∃ ps : List LitP, ps.map (·.1) = r.body ∧ w.ownsRow (w0.heap.size + 2) 43 8 (.slice ab nb cb) nb (flatP ps) ∧ (∀ (i : Nat) (p : LitP), i < k → ps[i]? = some p → w.ownsRow (w0.heap.size + 2) 37 2 (slP p) p.2.2.1 (flatT p.1.atom.terms)) ∧ Apart (.slice ah nh ch :: (ps.take k).map slP)
theorem CopyN.done {w0 w : World} {r : Rule} {ah : Option Addr} {nh ch : Nat} {ab : Option Addr} {nb cb k : Nat} (h : CopyN w0 r ah nh ch ab nb cb k w) (hk : r.body.length ≤ k) : NewR w (w0.heap.size + 2) (fun _ => False) r ah nh ch ab nb cb := by
  obtain ⟨ps, h1, h2, h3, h4⟩ := h.body
  have hl : ps.length ≤ k := by have h5 : (ps.map (·.1)).length = ps.length := List.length_map _; rw [h1] at h5; omega
  have h3' : ∀ p ∈ ps, w.ownsRow (w0.heap.size + 2) 37 2 (slP p) p.2.2.1 (flatT p.1.atom.terms) := fun p hp => by
    obtain ⟨i, hi⟩ := List.mem_iff_getElem?.1 hp
    exact h3 i p (by have := (List.getElem?_eq_some_iff.1 hi).1; omega) hi
  exact ⟨h.head, ps, h1, h2, h3', by rwa [List.take_of_length_le hl] at h4, fun _ _ _ _ h => h⟩
theorem CopyN.copy {w0 w w1 : World} {r : Rule} {ah : Option Addr} {nh ch g nb cb : Nat} {k : Nat} (h : CopyN w0 r ah nh ch (some ⟨g, 0, none⟩) nb cb k w) (hkl : k < r.body.length) (e : Ext w w1) {ps : List LitP} (hps : ps.map (·.1) = r.body) (hrow : RowC w (some ⟨g, 0, none⟩) nb ps) (hok : ∀ p ∈ ps, okP w p ∧ away w0 (some ⟨g, 0, none⟩) p.2.1 p.2.2.1)
    {p : LitP} (hk : ps[k]? = some p) {a' : Option Addr} {c' : Nat} (ho : w1.ownsRow w.heap.size 37 2 (.slice a' p.2.2.1 c') p.2.2.1 (flatT p.1.atom.terms)) :
    CopyN w0 r ah nh ch (some ⟨g, 0, none⟩) nb cb (k + 1) (w1.setCell ⟨g, k * 8 + 2, none⟩ (.slice a' p.2.2.1 c')) := by
  obtain ⟨qs, h1, h2, h3, h4⟩ := h.body
  obtain ⟨q, hq⟩ : ∃ q, qs[k]? = some q := by
    have hl : qs.length = r.body.length := by rw [← h1, List.length_map]
    exact ⟨_, List.getElem?_eq_getElem (by omega)⟩
  obtain rfl := litp_eq (h1.trans hps.symm) h2 hrow hq hk
  have hz : w0.heap.size + 2 ≤ w.heap.size := World.block_lt_of_cell? _ _ h.st.d0
  have k2 : w1.ownsRow (w0.heap.size + 2) 43 8 (.slice (some ⟨g, 0, none⟩) nb cb) nb (flatP qs) := h2.kept (gb_of_ext e none) (by simp [Value.ownBlock])
  have far : ∀ {v : Value} {n : Nat} {xs : List Value}, w1.ownsRow (w0.heap.size + 2) 37 2 v n xs → (w1.setCell ⟨g, k * 8 + 2, none⟩ (.slice a' q.2.2.1 c')).ownsRow (w0.heap.size + 2) 37 2 v n xs := fun hh => own_set_other hh (a := ⟨g, k * 8 + 2, none⟩) (own_apart hh k2 (by decide)) _
  have old : ∀ {v : Value} {n : Nat} {xs : List Value}, w.ownsRow (w0.heap.size + 2) 37 2 v n xs → w1.ownsRow (w0.heap.size + 2) 37 2 v n xs := fun {v} _ _ hh => hh.kept (gb_of_ext e none) (by cases v.ownBlock <;> simp)
  refine ⟨h.st.copy e hps hrow hok hk ho, far (old h.head), qs.set k (q.1, a', q.2.2.1, c'), ?_, ?_, fun i p hi hp => ?_, ?_⟩
  · rw [List.map_set, ← h1]
    apply List.ext_getElem?
    intro i
    rw [List.getElem?_set]
    by_cases hki : k = i
    · subst hki
      rw [if_pos rfl, List.length_map, if_pos (List.getElem?_eq_some_iff.1 hq).1, List.getElem?_map, hq]
      rfl
    · rw [if_neg hki]
  · rw [flatP_set qs k q hq]
    exact (k2.stored _ _).1
  · rw [List.getElem?_set] at hp
    by_cases hki : k = i
    · subst hki
      rw [if_pos rfl, if_pos (List.getElem?_eq_some_iff.1 hq).1] at hp
      cases hp
      exact far (own_base ho hz)
    · rw [if_neg hki] at hp
      exact far (old (h3 i p (by omega) hp))
  · have e1 : (qs.set k (q.1, a', q.2.2.1, c')).take (k + 1) = qs.take k ++ [(q.1, a', q.2.2.1, c')] := by
      rw [List.take_add_one, List.getElem?_set, if_pos rfl, if_pos (List.getElem?_eq_some_iff.1 hq).1, List.take_set, List.set_eq_of_length_le (List.length_take_le _ _)]
      rfl
    rw [e1, List.map_append, ← List.cons_append]
    refine List.pairwise_append.2 ⟨h4, List.pairwise_singleton _ _, ?_⟩
    intro x hx y hy
    simp only [List.map_cons, List.map_nil, List.mem_singleton] at hy
    subst hy
    have lt : ∀ {v : Value} {n : Nat} {xs : List Value}, w.ownsRow (w0.heap.size + 2) 37 2 v n xs → v.ownBlock = none ∨ v.ownBlock ≠ (slP (q.1, a', q.2.2.1, c')).ownBlock := by
      intro v n xs hh
      cases hv : v.ownBlock with
      | none => exact .inl rfl
      | some b =>
        refine .inr fun e2 => ?_
        have l1 := (hh.lt b hv).2
        have l2 := (ho.lt b e2.symm).1
        omega
    rcases List.mem_cons.1 hx with rfl | hx
    · exact lt h.head
    · obtain ⟨p', hp', rfl⟩ := List.mem_map.1 hx
      obtain ⟨i, hi⟩ := List.mem_iff_getElem?.1 hp'
      rw [List.getElem?_take] at hi
      by_cases hik : i < k
      · rw [if_pos hik] at hi
        exact lt (h3 i p' hik hi)
      · rw [if_neg hik] at hi
        cases hi
set_option maxRecDepth 20000 in
set_option maxHeartbeats 4000000 in
theorem c_ownN (r : Rule) (ah : Option Addr) (nh ch : Nat) (ab : Option Addr) (nb cb : Nat) (w : World) (hr : RuleV w r ah nh ch ab nb cb) :
    Calls Try.prog 51 #[.agg #[.string r.head.pred, .slice ah nh ch, .slice ab nb cb]] w fun e w' => ∃ ah' ch' ab' cb', e = .returned (.agg #[.string r.head.pred, .slice ah' nh ch', .slice ab' nb cb']) ∧ RuleV w' r ah' nh ch' ab' nb cb' ∧ NewR w' (w.heap.size + 2) (fun _ => False) r ah' nh ch' ab' nb cb' ∧ Ext w w' := by
  obtain ⟨ps, hps, hok, hcl⟩ := hr.body.parts
  have hpl : ps.length = nb := by rw [← hr.body.2.1, ← hps, List.length_map]
  have HR := Lib.hid hr
  have HN := Lib.hid hr.body.1
  have HPS := Lib.hid hps
  have HOK := Lib.hid hok
  have HCL := Lib.hid hcl
  clear hr hps hok hcl
  go_enter Try.func51, Try.ntmps51
  go_upto_region 1 with (fail)
  refine wp_gen (fun W hW => ?_)
  have hb0 : Ext w W := by rw [hW]; go_grown
  have x0 : W.cell? ⟨w.heap.size, 0, none⟩ = some (.string r.head.pred) := by rw [hW]; go_simp
  have x1 : W.cell? ⟨w.heap.size, 1, none⟩ = some (.slice ah nh ch) := by rw [hW]; go_simp
  have x2 : W.cell? ⟨w.heap.size, 2, none⟩ = some (.slice ab nb cb) := by rw [hW]; go_simp
  have z0 : W.cell? ⟨w.heap.size + 1, 0, none⟩ = some (.string ⟨#[]⟩) := by rw [hW]; go_simp
  have z1 : W.cell? ⟨w.heap.size + 1, 1, none⟩ = some (.slice none 0 0) := by rw [hW]; go_simp
  have z2 : W.cell? ⟨w.heap.size + 1, 2, none⟩ = some (.slice none 0 0) := by rw [hW]; go_simp
  have f1 : W.frozen? ⟨w.heap.size, 1, none⟩ = false := by rw [hW]; go_simp
  have f2 : W.frozen? ⟨w.heap.size, 2, none⟩ = false := by rw [hW]; go_simp
  have q0 : W.frozen? ⟨w.heap.size + 1, 0, none⟩ = false := by rw [hW]; go_simp
  have q1 : W.frozen? ⟨w.heap.size + 1, 1, none⟩ = false := by rw [hW]; go_simp
  have q2 : W.frozen? ⟨w.heap.size + 1, 2, none⟩ = false := by rw [hW]; go_simp
  have hz : w.heap.size + 1 < W.heap.size := World.block_lt_of_cell? _ _ z0
  have hz' : w.heap.size < W.heap.size := by omega
  clear hW
  go_upto_region 2 with (go_at_call 62; (with_reducible refine (c_CloneT r.head.terms ah nh ch _ (HR.out.terms.keep hb0) HR.out.hcap).mono ?_); rintro e w1 ⟨ah', ch', rfl, own1, hb1⟩; have a0 := keep hb1 x0; have a1 := keep hb1 x1; have a2 := keep hb1 x2; have k1 := (hb1.frozen (p := ⟨w.heap.size, 1, none⟩) hz').trans f1)
  refine wp_gen (fun W1 hW1 => ?_)
  have hb2 : Ext w W1 := by rw [hW1]; exact ext_set (ext_trans hb0 hb1) (Nat.le_refl _) _
  have own2 : W1.ownsRow W.heap.size 37 2 (.slice ah' nh ch') nh (flatT r.head.terms) := by rw [hW1]; exact ownsRow_setCell_below own1 hz' _
  have o0 : W1.cell? ⟨w.heap.size, 0, none⟩ = some (.string r.head.pred) := by rw [hW1, World.cell?_setCell_other _ _ _ _ (by simp)]; exact a0
  have o1 : W1.cell? ⟨w.heap.size, 1, none⟩ = some (.slice ah' nh ch') := by rw [hW1]; exact World.cell?_setCell_same _ _ _ a1
  have o2 : W1.cell? ⟨w.heap.size, 2, none⟩ = some (.slice ab nb cb) := by rw [hW1, World.cell?_setCell_other _ _ _ _ (by simp)]; exact a2
  have p0 : W1.cell? ⟨w.heap.size + 1, 0, none⟩ = some (.string ⟨#[]⟩) := by rw [hW1, World.cell?_setCell_other _ _ _ _ (by simp)]; exact keep hb1 z0
  have p1 : W1.cell? ⟨w.heap.size + 1, 1, none⟩ = some (.slice none 0 0) := by rw [hW1, World.cell?_setCell_other _ _ _ _ (by simp)]; exact keep hb1 z1
  have p2 : W1.cell? ⟨w.heap.size + 1, 2, none⟩ = some (.slice none 0 0) := by rw [hW1, World.cell?_setCell_other _ _ _ _ (by simp)]; exact keep hb1 z2
  have r2 : W1.frozen? ⟨w.heap.size, 2, none⟩ = false := by rw [hW1, World.frozen?_setCell]; exact (hb1.frozen (p := ⟨w.heap.size, 2, none⟩) hz').trans f2
  have s0 : W1.frozen? ⟨w.heap.size + 1, 0, none⟩ = false := by rw [hW1, World.frozen?_setCell]; exact (hb1.frozen (p := ⟨w.heap.size + 1, 0, none⟩) hz).trans q0
  have s1 : W1.frozen? ⟨w.heap.size + 1, 1, none⟩ = false := by rw [hW1, World.frozen?_setCell]; exact (hb1.frozen (p := ⟨w.heap.size + 1, 1, none⟩) hz).trans q1
  have s2 : W1.frozen? ⟨w.heap.size + 1, 2, none⟩ = false := by rw [hW1, World.frozen?_setCell]; exact (hb1.frozen (p := ⟨w.heap.size + 1, 2, none⟩) hz).trans q2
  have hzW : w.heap.size + 1 < W1.heap.size := World.block_lt_of_cell? _ _ p0
  have hzW' : w.heap.size < W1.heap.size := by omega
  have hWW : W.heap.size ≤ W1.heap.size := by rw [hW1]; simpa using hb1.size
  have O2 := Lib.hid own2
  clear hW1 own1 own2 a0 a1 a2 k1 z0 z1 z2 q0 q1 q2 f1 f2 x0 x1 x2
  clear hb1 hb0
  go_upto_region 3 with (go_at_call 63; (with_reducible refine (c_CloneL ps ab nb cb W1 hpl HN.out HR.out.bcap (fun x e j u hu => keep hb2 (HCL.out x e j u hu))).mono ?_); rintro e w3 ⟨ab', cb', rfl, own3, hb3⟩; have a0 := keep hb3 o0; have a1 := keep hb3 o1; have a2 := keep hb3 o2; have k2 := (hb3.frozen (p := ⟨w.heap.size, 2, none⟩) hzW').trans r2)
  refine wp_gen (fun W3 hW3 => ?_)
  have st : CopySt w r ah' nh ch' ab' nb cb' W3 := by
    have hlow : ∀ x, ab' = some x → W1.heap.size ≤ x.block := fun x e => by subst e; exact (own3.lt x.block rfl).1
    have own4 : W3.ownsRow W1.heap.size 43 8 (.slice ab' nb cb') nb (flatP ps) := by rw [hW3]; exact ownsRow_setCell_below own3 hzW' _
    have hE : Ext w W3 := by rw [hW3]; exact ext_set (ext_trans hb2 hb3) (Nat.le_refl _) _
    have hfz : ∀ x, W3.frozen? x = w3.frozen? x := fun x => by rw [hW3, World.frozen?_setCell]
    refine ⟨hE, ?_, ?_, ?_, ?_, ?_, ?_, ?_, ?_, ?_, ?_, ?_, ⟨ps, HPS.out, RowC.of own4, fun p hp => ⟨(HOK.out p hp).keep hE, away_old (HOK.out p hp).1 (fun x e => by have := hlow x e; omega)⟩⟩, fun x e => by have := hlow x e; omega, fun g e j => ?_⟩
    · rw [hW3, World.cell?_setCell_other _ _ _ _ (by simp)]; exact a0
    · rw [hW3, World.cell?_setCell_other _ _ _ _ (by simp)]; exact a1
    · rw [hW3]; exact World.cell?_setCell_same _ _ _ a2
    · rw [hW3, World.cell?_setCell_other _ _ _ _ (by simp)]; exact keep hb3 p0
    · rw [hW3, World.cell?_setCell_other _ _ _ _ (by simp)]; exact keep hb3 p1
    · rw [hW3, World.cell?_setCell_other _ _ _ _ (by simp)]; exact keep hb3 p2
    · exact (hfz _).trans ((hb3.frozen (p := ⟨w.heap.size + 1, 0, none⟩) hzW).trans s0)
    · exact (hfz _).trans ((hb3.frozen (p := ⟨w.heap.size + 1, 1, none⟩) hzW).trans s1)
    · exact (hfz _).trans ((hb3.frozen (p := ⟨w.heap.size + 1, 2, none⟩) hzW).trans s2)
    · have o5 : W3.ownsRow W.heap.size 37 2 (.slice ah' nh ch') nh (flatT r.head.terms) := by rw [hW3]; exact ownsRow_setCell_below (O2.out.kept (gb_of_ext hb3 none) (by cases (Value.slice ah' nh ch').ownBlock <;> simp)) hz' _
      exact own_termsO o5 HR.out.terms.1 HR.out.terms.texts
    · refine .inr fun ad e => ?_
      subst e
      have h1 := O2.out.lt ad.block rfl
      exact ⟨by omega, by omega, fun x hx => by have := hlow x hx; omega⟩
    · subst e
      exact frozen_of_own own4 j
  have hn0 : CopyN w r ah' nh ch' ab' nb cb' 0 W3 := by
    refine ⟨st, ?_, ps, HPS.out, ?_, fun i p hi => absurd hi (Nat.not_lt_zero _), List.pairwise_singleton _ _⟩
    · rw [hW3]; exact own_base (ownsRow_setCell_below (O2.out.kept (gb_of_ext hb3 none) (by cases (Value.slice ah' nh ch').ownBlock <;> simp)) hz' _) (by omega)
    · rw [hW3]; exact own_base (ownsRow_setCell_below own3 hzW' _) (by omega)
  have HS := Lib.hid hn0
  have CP := Lib.hid (cap_of_own O2.out)
  have CB := Lib.hid (cap_of_own own3)
  have y2 := st.c2
  clear hn0 st hW3 own3 hb3 a0 a1 a2 k2 o0 o1 o2 p0 p1 p2 r2 s0 s1 s2 O2
  go_wp2
  go_loopw [17] (fun i wj => ∃ k, k ≤ nb ∧ i = .int .i64 (k : Int) ∧ CopyN w r ah' nh ch' ab' nb cb' k wj) (fun i _ => nb - (intOf i).toNat)
  case atStart => exact ⟨0, by omega, rfl, HS.out⟩
  case round =>
    obtain ⟨k, hk, rfl, hs⟩ := hrel
    have v2 := hs.st.c2
    have HSi := Lib.hid hs
    clear hs
    by_cases hge : nb ≤ k
    · obtain rfl : k = nb := by omega
      have w0c := HSi.out.st.d0
      have w1c := HSi.out.st.d1
      have w2c := HSi.out.st.d2
      have f0 := HSi.out.st.f0
      have f1 := HSi.out.st.f1
      have f2 := HSi.out.st.f2
      have x0 := HSi.out.st.c0
      have x1 := HSi.out.st.c1
      go_wp2
      have NR : NewR (((wr.setCell ⟨w.heap.size + 1, 0, none⟩ (.string r.head.pred)).setCell ⟨w.heap.size + 1, 1, none⟩ (.slice ah' nh ch')).setCell ⟨w.heap.size + 1, 2, none⟩ (.slice ab' k cb')) (w.heap.size + 2) (fun _ => False) r ah' nh ch' ab' k cb' := ((HSi.out.done (by have := HR.out.body.2.1; omega)).set (.inl (Nat.lt_succ_self _))).set (.inl (Nat.lt_succ_self _)) |>.set (.inl (Nat.lt_succ_self _))
      obtain ⟨S0, S1, S2, cz, _, _⟩ := set3 w0c w1c w2c (.string r.head.pred) (.slice ah' nh ch') (.slice ab' k cb') rfl
      have E6 := ext_set (ext_set (ext_set HSi.out.st.old (p := ⟨w.heap.size + 1, 0, none⟩) (Nat.le_succ _) (.string r.head.pred)) (p := ⟨w.heap.size + 1, 1, none⟩) (Nat.le_succ _) (.slice ah' nh ch')) (p := ⟨w.heap.size + 1, 2, none⟩) (Nat.le_succ _) (.slice ab' k cb')
      generalize (((wr.setCell ⟨w.heap.size + 1, 0, none⟩ (.string r.head.pred)).setCell ⟨w.heap.size + 1, 1, none⟩ (.slice ah' nh ch')).setCell ⟨w.heap.size + 1, 2, none⟩ (.slice ab' k cb')) = W6 at S0 S1 S2 cz E6 NR ⊢
      refine bodyPost_ret (by simp [results, Try.results51, go_sem, S0, S1, S2]; try rfl) rfl ?_
      obtain ⟨qs, hqs, hrow, hok⟩ := HSi.out.st.body
      have hz3 : ∀ x : Addr, x.block ≠ w.heap.size → x.block ≠ w.heap.size + 1 → (∀ y, ab' = some y → x.block ≠ y.block) → W6.cell? x = wr.cell? x := fun x _ h2 _ => cz x h2
      have hrow' : RowC W6 ab' k qs := ⟨hrow.1, fun i p hp => by
        obtain ⟨g, e, C⟩ := hrow.2 i p hp
        have := HSi.out.st.low _ e
        exact ⟨g, e, fun j v hj => (cz ⟨g, _, none⟩ (show g ≠ _ by have h : w.heap.size + 1 < g := this; omega)).trans (C j v hj)⟩⟩
      refine ⟨ah', ch', ab', cb', rfl, ⟨HR.out.pred, HSi.out.st.head.away HSi.out.st.haway hz3, ?_, CP.out, CB.out⟩, NR, E6⟩
      rw [← hqs]
      exact hrow'.lits HN.out fun p hp => ⟨(hok p hp).1.1.away (hok p hp).2 hz3, (hok p hp).1.2⟩
    · obtain ⟨qs, hqs, hrow, hok⟩ := HSi.out.st.body
      obtain ⟨p, hp⟩ : ∃ p, qs[k]? = some p := ⟨_, List.getElem?_eq_getElem (by rw [hrow.1]; omega)⟩
      obtain ⟨g, rfl, C⟩ := hrow.2 k p hp
      have c2 : wr.cell? ⟨g, k * 8 + 2, none⟩ = some (.slice p.2.1 p.2.2.1 p.2.2.2) := C 2 _ rfl
      have fg : wr.frozen? ⟨g, k * 8 + 2, none⟩ = false := HSi.out.st.fz g rfl _
      have hnn := HN.out
      have hki : (k : Int) < (nb : Int) := by omega
      have HQ := Lib.hid hqs
      have HRW := Lib.hid hrow
      have HO := Lib.hid hok
      have HP := Lib.hid hp
      clear hqs hrow hok hp C
      have hd : Ext wr wr.drew := ext_drew (Below.refl _ _)
      have PT : Hid (TermsAt wr p.2.1 p.2.2.1 p.1.atom.terms) := (HO.out p (List.mem_of_getElem? HP.out)).1.1
      have PC : Hid (capOk p.2.1 p.2.2.1 p.2.2.2) := (HO.out p (List.mem_of_getElem? HP.out)).1.2.1
      have hgl : g < wr.heap.size := World.block_lt_of_cell? wr ⟨g, _, none⟩ c2
      go_upto_region 6 with (fail)
      have v2d := keep hd v2
      have c2d := keep hd c2
      go_region_with (go_at_call 62; (with_reducible refine (c_CloneT p.1.atom.terms _ _ _ wr.drew (PT.out.keep hd) PC.out).mono ?_); rintro e w6 ⟨a6, p6, rfl, own6, h6⟩; have g6 := ext_trans hd h6; have c6 := keep g6 c2; have v6 := keep g6 v2; have f6 := (g6.frozen (p := ⟨g, k * 8 + 2, none⟩) hgl).trans fg)
      all_goals
        go_wp2
        go_roundw
        case rel => exact ⟨k + 1, by omega, by go_num, HSi.out.copy (by have := HR.out.body.2.1; omega) g6 HQ.out HRW.out HO.out HP.out own6⟩
        case measure => simp [intOf]; omega
end Go.Proofs.Ytcphjfggjjonpaa
