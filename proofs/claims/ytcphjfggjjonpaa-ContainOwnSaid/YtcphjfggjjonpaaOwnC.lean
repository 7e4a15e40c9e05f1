/- The walk of contain.own: a rule in memory of its own. -/
import Derived.Test.YtcphjfggjjonpaaClone
namespace Go.Proofs.Ytcphjfggjjonpaa
open Go.ChangeShapes Go.WideShapes Go.ChangeAt Go.RowKit
/-- The terms lie apart from the call's two cells and from the body's row. -/
def away (w0 : World) (ab a : Option Addr) (n : Nat) : Prop := n = 0 ∨ ∀ ad, a = some ad → ad.block ≠ w0.heap.size ∧ ad.block ≠ w0.heap.size + 1 ∧ ∀ x, ab = some x → ad.block ≠ x.block
theorem TermsAt.away {w0 W w : World} {ab a : Option Addr} {n : Nat} {ts : List Term} (h : TermsAt W a n ts) (ha : away w0 ab a n) (hb : ∀ p : Addr, p.block ≠ w0.heap.size → p.block ≠ w0.heap.size + 1 → (∀ x, ab = some x → p.block ≠ x.block) → w.cell? p = W.cell? p) : TermsAt w a n ts := by
  rcases ha with rfl | ha
  · exact ⟨h.1, h.2.1, fun i t ht => by have := (List.getElem?_eq_some_iff.1 ht).1; have := h.2.1; omega⟩
  · refine ⟨h.1, h.2.1, fun i t ht => ?_⟩
    obtain ⟨b, off, rfl, h1, h2, h3⟩ := h.2.2 i t ht
    obtain ⟨e1, e2, e3⟩ := ha _ rfl
    exact ⟨b, off, rfl, (hb ⟨b, off + i * 2, none⟩ e1 e2 e3).trans h1, (hb ⟨b, off + i * 2 + 1, none⟩ e1 e2 e3).trans h2, h3⟩
/-- Terms that lay there before. -/
theorem away_old {w0 : World} {ab a : Option Addr} {n : Nat} {ts : List Term} (h : TermsAt w0 a n ts) (hg : ∀ x, ab = some x → w0.heap.size ≤ x.block) : away w0 ab a n := by
  by_cases h0 : n = 0
  · exact .inl h0
  · refine .inr fun ad e => ?_
    obtain ⟨t, b, off, _, e2, h1, _⟩ := h.2.at (i := 0) (by omega)
    rw [e] at e2
    cases e2
    have := World.block_lt_of_cell? _ _ h1
    have hlt : b < w0.heap.size := this
    exact ⟨by show b ≠ _; omega, by show b ≠ _; omega, fun x hx => by have := hg x hx; show b ≠ _; omega⟩
def RowC (w : World) (a : Option Addr) (n : Nat) (ps : List LitP) : Prop := ps.length = n ∧ ∀ (i : Nat) p, ps[i]? = some p → ∃ g, a = some ⟨g, 0, none⟩ ∧ ∀ j v, (valsP p)[j]? = some v → w.cell? ⟨g, i * 8 + j, none⟩ = some v
theorem RowC.keep {W w : World} {a : Option Addr} {n : Nat} {ps : List LitP} (hb : Ext W w) (h : RowC W a n ps) : RowC w a n ps :=
  ⟨h.1, fun i p hp => let ⟨g, h1, h2⟩ := h.2 i p hp; ⟨g, h1, fun j v hj => Ytcphjfggjjonpaa.keep hb (h2 j v hj)⟩⟩
theorem RowC.of {w : World} {base n cap : Nat} {a : Option Addr} {ps : List LitP} (h : w.ownsRow base 43 8 (.slice a n cap) n (flatP ps)) : RowC w a n ps := by
  have hl : ps.length = n := by have := h.1; rw [flatP_len] at this; omega
  refine ⟨hl, fun i p hp => ?_⟩
  have hi := (List.getElem?_eq_some_iff.1 hp).1
  rcases h.2 with ⟨h1, h0⟩ | ⟨g, c', cur, hv, hg0, hg, hc, hrest⟩
  · omega
  · cases hv
    refine ⟨g, rfl, fun j v hj => ?_⟩
    have hj8 : j < 8 := (List.getElem?_eq_some_iff.1 hj).1
    have := h.cells (g := g) rfl (i * 8 + j) v (by rw [flatP_get ps i j p hp hj8]; exact hj)
    rw [Addr.add_lit, Nat.zero_add] at this
    exact this
theorem RowC.lits {w : World} {a : Option Addr} {n : Nat} {ps : List LitP} (h : RowC w a n ps) (hn : n ≤ 1353245080303) (hp : ∀ p ∈ ps, okP w p) : LitsAt w a n (ps.map (·.1)) := by
  refine ⟨hn, by rw [List.length_map, h.1], fun i l hl => ?_⟩
  rw [List.getElem?_map] at hl
  obtain ⟨p, hi, rfl⟩ := Option.map_eq_some_iff.1 hl
  obtain ⟨g, e, C⟩ := h.2 i p hi
  obtain ⟨l, a', n', c'⟩ := p
  obtain ⟨ht, hcap, hs⟩ := hp _ (List.mem_of_getElem? hi)
  refine ⟨g, 0, e, ?_⟩
  rw [Nat.zero_add]
  exact ⟨a', n', c', C 0 _ rfl, C 1 _ rfl, C 2 _ rfl, C 3 _ rfl, C 4 _ rfl, C 5 _ rfl, C 6 _ rfl, C 7 _ rfl, ht, hcap, hs⟩
/-- The terms' slice of one literal is written over. -/
theorem RowC.set {w : World} {g n k : Nat} {ps : List LitP} (h : RowC w (some ⟨g, 0, none⟩) n ps) {p : LitP} (hk : ps[k]? = some p) (a' : Option Addr) (n' c' : Nat) : RowC (w.setCell ⟨g, k * 8 + 2, none⟩ (.slice a' n' c')) (some ⟨g, 0, none⟩) n (ps.set k (p.1, a', n', c')) := by
  have hkl := (List.getElem?_eq_some_iff.1 hk).1
  obtain ⟨g0, e0, C0⟩ := h.2 k p hk
  cases e0
  refine ⟨by rw [List.length_set]; exact h.1, fun i q hq => ⟨g, rfl, fun j v hj => ?_⟩⟩
  rw [List.getElem?_set] at hq
  by_cases hki : k = i
  · subst hki
    rw [if_pos rfl, if_pos hkl] at hq
    cases hq
    by_cases hj2 : j = 2
    · subst hj2
      cases hj
      exact World.cell?_setCell_same _ _ _ (C0 2 _ rfl)
    · rw [World.cell?_setCell_other _ _ _ _ (by intro e; have := congrArg Addr.off e; dsimp only at this; omega)]
      have hj8 : j < 8 := (List.getElem?_eq_some_iff.1 hj).1
      apply C0 j v
      rw [← hj]
      match j, hj8, hj2 with
      | 0, _, _ => rfl
      | 1, _, _ => rfl
      | 3, _, _ => rfl
      | 4, _, _ => rfl
      | 5, _, _ => rfl
      | 6, _, _ => rfl
      | 7, _, _ => rfl
  · rw [if_neg hki] at hq
    obtain ⟨g1, e1, C1⟩ := h.2 i q hq
    cases e1
    have hj8 : j < 8 := (List.getElem?_eq_some_iff.1 hj).1
    rw [World.cell?_setCell_other _ _ _ _ (by intro e; have := congrArg Addr.off e; dsimp only at this; omega)]
    exact C1 j v hj
structure CopySt (w0 : World) (r : Rule) (ah : Option Addr) (nh ch : Nat) (ab : Option Addr) (nb cb : Nat) (w : World) : Prop where
  old : Ext w0 w
  c0 : w.cell? ⟨w0.heap.size, 0, none⟩ = some (.string r.head.pred)
  c1 : w.cell? ⟨w0.heap.size, 1, none⟩ = some (.slice ah nh ch)
  c2 : w.cell? ⟨w0.heap.size, 2, none⟩ = some (.slice ab nb cb)
  d0 : w.cell? ⟨w0.heap.size + 1, 0, none⟩ = some (.string ⟨#[]⟩)
  d1 : w.cell? ⟨w0.heap.size + 1, 1, none⟩ = some (.slice none 0 0)
  d2 : w.cell? ⟨w0.heap.size + 1, 2, none⟩ = some (.slice none 0 0)
  f0 : w.frozen? ⟨w0.heap.size + 1, 0, none⟩ = false
  f1 : w.frozen? ⟨w0.heap.size + 1, 1, none⟩ = false
  f2 : w.frozen? ⟨w0.heap.size + 1, 2, none⟩ = false
  head : TermsAt w ah nh r.head.terms
  haway : away w0 ab ah nh
  body : ∃ ps, ps.map (·.1) = r.body ∧ RowC w ab nb ps ∧ ∀ p ∈ ps, okP w p ∧ away w0 ab p.2.1 p.2.2.1
  low : ∀ x, ab = some x → w0.heap.size + 1 < x.block
  fz : ∀ g, ab = some ⟨g, 0, none⟩ → ∀ j, w.frozen? ⟨g, j, none⟩ = false
theorem CopySt.copy {w0 w w1 : World} {r : Rule} {ah : Option Addr} {nh ch g nb cb : Nat} (h : CopySt w0 r ah nh ch (some ⟨g, 0, none⟩) nb cb w) (e : Ext w w1) {ps : List LitP} (hps : ps.map (·.1) = r.body) (hrow : RowC w (some ⟨g, 0, none⟩) nb ps) (hok : ∀ p ∈ ps, okP w p ∧ away w0 (some ⟨g, 0, none⟩) p.2.1 p.2.2.1)
    {k : Nat} {p : LitP} (hk : ps[k]? = some p) {a' : Option Addr} {c' : Nat} (ho : w1.ownsRow w.heap.size 37 2 (.slice a' p.2.2.1 c') p.2.2.1 (flatT p.1.atom.terms)) :
    CopySt w0 r ah nh ch (some ⟨g, 0, none⟩) nb cb (w1.setCell ⟨g, k * 8 + 2, none⟩ (.slice a' p.2.2.1 c')) := by
  have hg := h.low _ rfl
  have hg' : w0.heap.size + 1 < g := hg
  obtain ⟨g0, e0, C0⟩ := hrow.2 k p hk
  cases e0
  have hgw : g < w.heap.size := World.block_lt_of_cell? w ⟨g, _, none⟩ (C0 2 _ rfl)
  have hz : w0.heap.size + 1 < w.heap.size := World.block_lt_of_cell? _ _ h.d0
  have hbo : ∀ x : Addr, x.block ≠ g → (w1.setCell ⟨g, k * 8 + 2, none⟩ (.slice a' p.2.2.1 c')).cell? x = w1.cell? x := fun x hx => World.cell?_setCell_other _ _ _ _ (fun e => hx (by rw [← e]))
  have n0 : w0.heap.size ≠ g := by omega
  have n1 : w0.heap.size + 1 ≠ g := by omega
  have hfo : ∀ x : Addr, (w1.setCell ⟨g, k * 8 + 2, none⟩ (.slice a' p.2.2.1 c')).frozen? x = w1.frozen? x := fun x => by simp
  have htm : ∀ {a : Option Addr} {n : Nat} {ts : List Term}, TermsAt w1 a n ts → away w0 (some ⟨g, 0, none⟩) a n → TermsAt (w1.setCell ⟨g, k * 8 + 2, none⟩ (.slice a' p.2.2.1 c')) a n ts := fun ht ha => ht.away ha (fun x _ _ h3 => hbo x (h3 _ rfl))
  have hpm := hok p (List.mem_of_getElem? hk)
  have haw' : away w0 (some ⟨g, 0, none⟩) a' p.2.2.1 := .inr fun ad e => by
    subst e
    have := (ho.lt ad.block rfl).1
    exact ⟨by omega, by omega, fun x hx => by cases hx; show _ ≠ g; omega⟩
  refine ⟨ext_set (ext_trans h.old e) (by show w0.heap.size ≤ g; omega) _, (hbo ⟨_, 0, none⟩ n0).trans (keep e h.c0), (hbo ⟨_, 1, none⟩ n0).trans (keep e h.c1), (hbo ⟨_, 2, none⟩ n0).trans (keep e h.c2), (hbo ⟨_, 0, none⟩ n1).trans (keep e h.d0), (hbo ⟨_, 1, none⟩ n1).trans (keep e h.d1), (hbo ⟨_, 2, none⟩ n1).trans (keep e h.d2),
    (hfo _).trans ((e.frozen (p := ⟨_, 0, none⟩) hz).trans h.f0), (hfo _).trans ((e.frozen (p := ⟨_, 1, none⟩) hz).trans h.f1), (hfo _).trans ((e.frozen (p := ⟨_, 2, none⟩) hz).trans h.f2), htm (h.head.keep e) h.haway, h.haway, ?_, h.low, fun g1 e1 j => ?_⟩
  · refine ⟨ps.set k (p.1, a', p.2.2.1, c'), ?_, (hrow.keep e).set hk a' _ c', fun q hq => ?_⟩
    · rw [List.map_set, ← hps]
      apply List.ext_getElem?
      intro i
      rw [List.getElem?_set]
      by_cases hki : k = i
      · subst hki
        rw [if_pos rfl, List.length_map, if_pos (List.getElem?_eq_some_iff.1 hk).1, List.getElem?_map, hk]
        rfl
      · rw [if_neg hki]
    · rcases List.mem_or_eq_of_mem_set hq with hq | rfl
      · obtain ⟨q1, q2⟩ := hok q hq
        exact ⟨⟨htm (q1.1.keep e) q2, q1.2⟩, q2⟩
      · exact ⟨⟨htm (own_termsO ho hpm.1.1.1 hpm.1.1.texts) haw', cap_of_own ho, hpm.1.2.2⟩, haw'⟩
  · cases e1
    exact (hfo _).trans ((e.frozen (p := ⟨g, j, none⟩) hgw).trans (h.fz g rfl j))
set_option maxRecDepth 20000 in
set_option maxHeartbeats 4000000 in
theorem c_ownC (r : Rule) (ah : Option Addr) (nh ch : Nat) (ab : Option Addr) (nb cb : Nat) (w : World) (hr : RuleV w r ah nh ch ab nb cb) :
    Calls Try.prog 51 #[.agg #[.string r.head.pred, .slice ah nh ch, .slice ab nb cb]] w fun e w' => ∃ ah' ch' ab' cb', e = .returned (.agg #[.string r.head.pred, .slice ah' nh ch', .slice ab' nb cb']) ∧ RuleV w' r ah' nh ch' ab' nb cb' ∧ Ext w w' := by
  obtain ⟨ps, hps, hok, hcl⟩ := hr.body.parts
  have hpl : ps.length = nb := by rw [← hr.body.2.1, ← hps, List.length_map]
  have HR := Lib.hid hr
  have HN := Lib.hid hr.body.1
  have HPS := Lib.hid hps
  have HOK := Lib.hid hok
  have HCL := Lib.hid hcl
  clear hr hps hok hcl
  go_enter Try.func51, Try.ntmps51
  go_upto_region 1 with (fail)
  refine wp_gen (fun W hW => ?_)
  have hb0 : Ext w W := by rw [hW]; go_grown
  have x0 : W.cell? ⟨w.heap.size, 0, none⟩ = some (.string r.head.pred) := by rw [hW]; go_simp
  have x1 : W.cell? ⟨w.heap.size, 1, none⟩ = some (.slice ah nh ch) := by rw [hW]; go_simp
  have x2 : W.cell? ⟨w.heap.size, 2, none⟩ = some (.slice ab nb cb) := by rw [hW]; go_simp
  have z0 : W.cell? ⟨w.heap.size + 1, 0, none⟩ = some (.string ⟨#[]⟩) := by rw [hW]; go_simp
  have z1 : W.cell? ⟨w.heap.size + 1, 1, none⟩ = some (.slice none 0 0) := by rw [hW]; go_simp
  have z2 : W.cell? ⟨w.heap.size + 1, 2, none⟩ = some (.slice none 0 0) := by rw [hW]; go_simp
  have f1 : W.frozen? ⟨w.heap.size, 1, none⟩ = false := by rw [hW]; go_simp
  have f2 : W.frozen? ⟨w.heap.size, 2, none⟩ = false := by rw [hW]; go_simp
  have q0 : W.frozen? ⟨w.heap.size + 1, 0, none⟩ = false := by rw [hW]; go_simp
  have q1 : W.frozen? ⟨w.heap.size + 1, 1, none⟩ = false := by rw [hW]; go_simp
  have q2 : W.frozen? ⟨w.heap.size + 1, 2, none⟩ = false := by rw [hW]; go_simp
  have hz : w.heap.size + 1 < W.heap.size := World.block_lt_of_cell? _ _ z0
  have hz' : w.heap.size < W.heap.size := by omega
  clear hW
  go_upto_region 2 with (go_at_call 62; (with_reducible refine (c_CloneT r.head.terms ah nh ch _ (HR.out.terms.keep hb0) HR.out.hcap).mono ?_); rintro e w1 ⟨ah', ch', rfl, own1, hb1⟩; have a0 := keep hb1 x0; have a1 := keep hb1 x1; have a2 := keep hb1 x2; have k1 := (hb1.frozen (p := ⟨w.heap.size, 1, none⟩) hz').trans f1)
  refine wp_gen (fun W1 hW1 => ?_)
  have hb2 : Ext w W1 := by rw [hW1]; exact ext_set (ext_trans hb0 hb1) (Nat.le_refl _) _
  have own2 : W1.ownsRow W.heap.size 37 2 (.slice ah' nh ch') nh (flatT r.head.terms) := by rw [hW1]; exact ownsRow_setCell_below own1 hz' _
  have o0 : W1.cell? ⟨w.heap.size, 0, none⟩ = some (.string r.head.pred) := by rw [hW1, World.cell?_setCell_other _ _ _ _ (by simp)]; exact a0
  have o1 : W1.cell? ⟨w.heap.size, 1, none⟩ = some (.slice ah' nh ch') := by rw [hW1]; exact World.cell?_setCell_same _ _ _ a1
  have o2 : W1.cell? ⟨w.heap.size, 2, none⟩ = some (.slice ab nb cb) := by rw [hW1, World.cell?_setCell_other _ _ _ _ (by simp)]; exact a2
  have p0 : W1.cell? ⟨w.heap.size + 1, 0, none⟩ = some (.string ⟨#[]⟩) := by rw [hW1, World.cell?_setCell_other _ _ _ _ (by simp)]; exact keep hb1 z0
  have p1 : W1.cell? ⟨w.heap.size + 1, 1, none⟩ = some (.slice none 0 0) := by rw [hW1, World.cell?_setCell_other _ _ _ _ (by simp)]; exact keep hb1 z1
  have p2 : W1.cell? ⟨w.heap.size + 1, 2, none⟩ = some (.slice none 0 0) := by rw [hW1, World.cell?_setCell_other _ _ _ _ (by simp)]; exact keep hb1 z2
  have r2 : W1.frozen? ⟨w.heap.size, 2, none⟩ = false := by rw [hW1, World.frozen?_setCell]; exact (hb1.frozen (p := ⟨w.heap.size, 2, none⟩) hz').trans f2
  have s0 : W1.frozen? ⟨w.heap.size + 1, 0, none⟩ = false := by rw [hW1, World.frozen?_setCell]; exact (hb1.frozen (p := ⟨w.heap.size + 1, 0, none⟩) hz).trans q0
  have s1 : W1.frozen? ⟨w.heap.size + 1, 1, none⟩ = false := by rw [hW1, World.frozen?_setCell]; exact (hb1.frozen (p := ⟨w.heap.size + 1, 1, none⟩) hz).trans q1
  have s2 : W1.frozen? ⟨w.heap.size + 1, 2, none⟩ = false := by rw [hW1, World.frozen?_setCell]; exact (hb1.frozen (p := ⟨w.heap.size + 1, 2, none⟩) hz).trans q2
  have hzW : w.heap.size + 1 < W1.heap.size := World.block_lt_of_cell? _ _ p0
  have hzW' : w.heap.size < W1.heap.size := by omega
  have hWW : W.heap.size ≤ W1.heap.size := by rw [hW1]; simpa using hb1.size
  have O2 := Lib.hid own2
  clear hW1 own1 own2 a0 a1 a2 k1 z0 z1 z2 q0 q1 q2 f1 f2 x0 x1 x2
  clear hb1 hb0
  go_upto_region 3 with (go_at_call 63; (with_reducible refine (c_CloneL ps ab nb cb W1 hpl HN.out HR.out.bcap (fun x e j u hu => keep hb2 (HCL.out x e j u hu))).mono ?_); rintro e w3 ⟨ab', cb', rfl, own3, hb3⟩; have a0 := keep hb3 o0; have a1 := keep hb3 o1; have a2 := keep hb3 o2; have k2 := (hb3.frozen (p := ⟨w.heap.size, 2, none⟩) hzW').trans r2)
  refine wp_gen (fun W3 hW3 => ?_)
  have st : CopySt w r ah' nh ch' ab' nb cb' W3 := by
    have hlow : ∀ x, ab' = some x → W1.heap.size ≤ x.block := fun x e => by subst e; exact (own3.lt x.block rfl).1
    have own4 : W3.ownsRow W1.heap.size 43 8 (.slice ab' nb cb') nb (flatP ps) := by rw [hW3]; exact ownsRow_setCell_below own3 hzW' _
    have hE : Ext w W3 := by rw [hW3]; exact ext_set (ext_trans hb2 hb3) (Nat.le_refl _) _
    have hfz : ∀ x, W3.frozen? x = w3.frozen? x := fun x => by rw [hW3, World.frozen?_setCell]
    refine ⟨hE, ?_, ?_, ?_, ?_, ?_, ?_, ?_, ?_, ?_, ?_, ?_, ⟨ps, HPS.out, RowC.of own4, fun p hp => ⟨(HOK.out p hp).keep hE, away_old (HOK.out p hp).1 (fun x e => by have := hlow x e; omega)⟩⟩, fun x e => by have := hlow x e; omega, fun g e j => ?_⟩
    · rw [hW3, World.cell?_setCell_other _ _ _ _ (by simp)]; exact a0
    · rw [hW3, World.cell?_setCell_other _ _ _ _ (by simp)]; exact a1
    · rw [hW3]; exact World.cell?_setCell_same _ _ _ a2
    · rw [hW3, World.cell?_setCell_other _ _ _ _ (by simp)]; exact keep hb3 p0
    · rw [hW3, World.cell?_setCell_other _ _ _ _ (by simp)]; exact keep hb3 p1
    · rw [hW3, World.cell?_setCell_other _ _ _ _ (by simp)]; exact keep hb3 p2
    · exact (hfz _).trans ((hb3.frozen (p := ⟨w.heap.size + 1, 0, none⟩) hzW).trans s0)
    · exact (hfz _).trans ((hb3.frozen (p := ⟨w.heap.size + 1, 1, none⟩) hzW).trans s1)
    · exact (hfz _).trans ((hb3.frozen (p := ⟨w.heap.size + 1, 2, none⟩) hzW).trans s2)
    · have o5 : W3.ownsRow W.heap.size 37 2 (.slice ah' nh ch') nh (flatT r.head.terms) := by rw [hW3]; exact ownsRow_setCell_below (O2.out.kept (gb_of_ext hb3 none) (by cases (Value.slice ah' nh ch').ownBlock <;> simp)) hz' _
      exact own_termsO o5 HR.out.terms.1 HR.out.terms.texts
    · refine .inr fun ad e => ?_
      subst e
      have h1 := O2.out.lt ad.block rfl
      exact ⟨by omega, by omega, fun x hx => by have := hlow x hx; omega⟩
    · subst e
      exact frozen_of_own own4 j
  have HS := Lib.hid st
  have CP := Lib.hid (cap_of_own O2.out)
  have CB := Lib.hid (cap_of_own own3)
  have y2 := st.c2
  clear st hW3 own3 hb3 a0 a1 a2 k2 o0 o1 o2 p0 p1 p2 r2 s0 s1 s2 O2
  go_wp2
  go_loopw [17] (fun i wj => ∃ k, k ≤ nb ∧ i = .int .i64 (k : Int) ∧ CopySt w r ah' nh ch' ab' nb cb' wj) (fun i _ => nb - (intOf i).toNat)
  case atStart => exact ⟨0, by omega, rfl, HS.out⟩
  case round =>
    obtain ⟨k, hk, rfl, hs⟩ := hrel
    have v2 := hs.c2
    have HSi := Lib.hid hs
    clear hs
    by_cases hge : nb ≤ k
    · obtain rfl : k = nb := by omega
      have w0c := HSi.out.d0
      have w1c := HSi.out.d1
      have w2c := HSi.out.d2
      have f0 := HSi.out.f0
      have f1 := HSi.out.f1
      have f2 := HSi.out.f2
      have x0 := HSi.out.c0
      have x1 := HSi.out.c1
      go_wp2
      obtain ⟨S0, S1, S2, cz, _, _⟩ := set3 w0c w1c w2c (.string r.head.pred) (.slice ah' nh ch') (.slice ab' k cb') rfl
      have E6 := ext_set (ext_set (ext_set HSi.out.old (p := ⟨w.heap.size + 1, 0, none⟩) (Nat.le_succ _) (.string r.head.pred)) (p := ⟨w.heap.size + 1, 1, none⟩) (Nat.le_succ _) (.slice ah' nh ch')) (p := ⟨w.heap.size + 1, 2, none⟩) (Nat.le_succ _) (.slice ab' k cb')
      generalize (((wr.setCell ⟨w.heap.size + 1, 0, none⟩ (.string r.head.pred)).setCell ⟨w.heap.size + 1, 1, none⟩ (.slice ah' nh ch')).setCell ⟨w.heap.size + 1, 2, none⟩ (.slice ab' k cb')) = W6 at S0 S1 S2 cz E6 ⊢
      refine bodyPost_ret (by simp [results, Try.results51, go_sem, S0, S1, S2]; try rfl) rfl ?_
      obtain ⟨qs, hqs, hrow, hok⟩ := HSi.out.body
      have hz3 : ∀ x : Addr, x.block ≠ w.heap.size → x.block ≠ w.heap.size + 1 → (∀ y, ab' = some y → x.block ≠ y.block) → W6.cell? x = wr.cell? x := fun x _ h2 _ => cz x h2
      have hrow' : RowC W6 ab' k qs := ⟨hrow.1, fun i p hp => by
        obtain ⟨g, e, C⟩ := hrow.2 i p hp
        have := HSi.out.low _ e
        exact ⟨g, e, fun j v hj => (cz ⟨g, _, none⟩ (show g ≠ _ by have h : w.heap.size + 1 < g := this; omega)).trans (C j v hj)⟩⟩
      refine ⟨ah', ch', ab', cb', rfl, ⟨HR.out.pred, HSi.out.head.away HSi.out.haway hz3, ?_, CP.out, CB.out⟩, E6⟩
      rw [← hqs]
      exact hrow'.lits HN.out fun p hp => ⟨(hok p hp).1.1.away (hok p hp).2 hz3, (hok p hp).1.2⟩
    · obtain ⟨qs, hqs, hrow, hok⟩ := HSi.out.body
      obtain ⟨p, hp⟩ : ∃ p, qs[k]? = some p := ⟨_, List.getElem?_eq_getElem (by rw [hrow.1]; omega)⟩
      obtain ⟨g, rfl, C⟩ := hrow.2 k p hp
      have c2 : wr.cell? ⟨g, k * 8 + 2, none⟩ = some (.slice p.2.1 p.2.2.1 p.2.2.2) := C 2 _ rfl
      have fg : wr.frozen? ⟨g, k * 8 + 2, none⟩ = false := HSi.out.fz g rfl _
      have hnn := HN.out
      have hki : (k : Int) < (nb : Int) := by omega
      have HQ := Lib.hid hqs
      have HRW := Lib.hid hrow
      have HO := Lib.hid hok
      have HP := Lib.hid hp
      clear hqs hrow hok hp C
      have hd : Ext wr wr.drew := ext_drew (Below.refl _ _)
      have PT : Hid (TermsAt wr p.2.1 p.2.2.1 p.1.atom.terms) := (HO.out p (List.mem_of_getElem? HP.out)).1.1
      have PC : Hid (capOk p.2.1 p.2.2.1 p.2.2.2) := (HO.out p (List.mem_of_getElem? HP.out)).1.2.1
      have hgl : g < wr.heap.size := World.block_lt_of_cell? wr ⟨g, _, none⟩ c2
      go_upto_region 6 with (fail)
      have v2d := keep hd v2
      have c2d := keep hd c2
      go_region_with (go_at_call 62; (with_reducible refine (c_CloneT p.1.atom.terms _ _ _ wr.drew (PT.out.keep hd) PC.out).mono ?_); rintro e w6 ⟨a6, p6, rfl, own6, h6⟩; have g6 := ext_trans hd h6; have c6 := keep g6 c2; have v6 := keep g6 v2; have f6 := (g6.frozen (p := ⟨g, k * 8 + 2, none⟩) hgl).trans fg)
      all_goals
        go_wp2
        go_roundw
        case rel => exact ⟨k + 1, by omega, by go_num, HSi.out.copy g6 HQ.out HRW.out HO.out HP.out own6⟩
        case measure => simp [intOf]; omega
end Go.Proofs.Ytcphjfggjjonpaa
