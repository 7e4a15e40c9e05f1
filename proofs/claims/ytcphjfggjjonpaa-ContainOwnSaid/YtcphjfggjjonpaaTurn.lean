/- The walk of the law's turned: a rule of the same head and the same literals. -/
import Derived.Test.YtcphjfggjjonpaaKnown
import Derived.Test.YtcphjfggjjonpaaHom
import Derived.BigRegion
import Derived.Laws.IdiomCopy
namespace Go.Proofs.Ytcphjfggjjonpaa
open Go.ChangeShapes Go.WideShapes Go.ChangeAt Go.RowKit
def litVals (l : Lit) (a : Option Addr) (n cap : Nat) : List Value :=
  [.int .i64 l.kind, .string l.atom.pred, .slice a n cap, .int .i64 l.op, .int .i64 l.left.kind, .string l.left.text, .int .i64 l.right.kind, .string l.right.text]
/-- A literal whose terms lie in another block than its own. -/
def litX (w : World) (lo g o : Nat) (l : Lit) : Prop :=
  ∃ (a : Option Addr) (n cap : Nat), (∀ j v, (litVals l a n cap)[j]? = some v → w.cell? ⟨g, o + j, none⟩ = some v) ∧ (∀ ad, a = some ad → ad.block ≠ g ∧ lo ≤ ad.block) ∧ TermsAt w a n l.atom.terms ∧ capOk a n cap ∧ l.atom.pred.size ≤ maxLen ∧ l.left.text.size ≤ maxLen ∧ l.right.text.size ≤ maxLen
theorem litX.lit {w : World} {lo g o : Nat} {l : Lit} (h : litX w lo g o l) : litAt w g o l := by
  obtain ⟨a, n, cap, hc, _, h1⟩ := h
  exact ⟨a, n, cap, hc 0 _ rfl, hc 1 _ rfl, hc 2 _ rfl, hc 3 _ rfl, hc 4 _ rfl, hc 5 _ rfl, hc 6 _ rfl, hc 7 _ rfl, h1⟩
theorem TermsAt.other {W w : World} {g : Nat} {a : Option Addr} {n : Nat} {ts : List Term} (hb : ∀ p : Addr, p.block ≠ g → w.cell? p = W.cell? p) (ha : ∀ ad, a = some ad → ad.block ≠ g) (h : TermsAt W a n ts) : TermsAt w a n ts := by
  refine ⟨h.1, h.2.1, fun i t ht => ?_⟩
  obtain ⟨b, off, rfl, h1, h2, h3⟩ := h.2.2 i t ht
  have hne := ha _ rfl
  exact ⟨b, off, rfl, (hb ⟨b, _, none⟩ (show b ≠ g from hne)).trans h1, (hb ⟨b, _, none⟩ (show b ≠ g from hne)).trans h2, h3⟩
/-- The row at g holds these literals. -/
def RowX (w : World) (lo g n : Nat) (ls : List Lit) : Prop := ls.length = n ∧ ∀ i l, ls[i]? = some l → litX w lo g (i * 8) l
theorem RowX.keep {W w : World} {lo g n : Nat} {ls : List Lit} (hb : Ext W w) (h : RowX W lo g n ls) : RowX w lo g n ls := by
  refine ⟨h.1, fun i l hl => ?_⟩
  obtain ⟨a, m, cap, hc, ha, ht, h1⟩ := h.2 i l hl
  exact ⟨a, m, cap, fun j v hj => Ytcphjfggjjonpaa.keep hb (hc j v hj), ha, ht.keep hb, h1⟩
theorem RowX.lits {w : World} {lo g n : Nat} {ls : List Lit} (h : RowX w lo g n ls) (hn : n ≤ 1353245080303) : LitsAt w (some ⟨g, 0, none⟩) n ls :=
  ⟨hn, h.1, fun i l hl => ⟨g, 0, rfl, by rw [Nat.zero_add]; exact (h.2 i l hl).lit⟩⟩
theorem RowX.swap {w : World} {lo g n : Nat} {ls : List Lit} (h : RowX w lo g n ls) {k m : Nat} {x y : Lit} (hx : ls[k]? = some x) (hy : ls[m]? = some y) {ax ay : Option Addr} {nx cx ny cy : Nat}
    (cX : ∀ j v, (litVals x ax nx cx)[j]? = some v → w.cell? ⟨g, k * 8 + j, none⟩ = some v) (cY : ∀ j v, (litVals y ay ny cy)[j]? = some v → w.cell? ⟨g, m * 8 + j, none⟩ = some v) :
    RowX ((w.setCells g (k * 8) (litVals y ay ny cy)).setCells g (m * 8) (litVals x ax nx cx)) lo g n ((ls.set k y).set m x) := by
  have LX : (litVals x ax nx cx).length = 8 := rfl
  have LY : (litVals y ay ny cy).length = 8 := rfl
  have hbo : ∀ p : Addr, p.block ≠ g → ((w.setCells g (k * 8) (litVals y ay ny cy)).setCells g (m * 8) (litVals x ax nx cx)).cell? p = w.cell? p := by
    intro p hp
    rw [World.cell?_setCells_out _ _ _ _ _ (fun e => absurd e hp), World.cell?_setCells_out _ _ _ _ _ (fun e => absurd e hp)]
  have hkn := (List.getElem?_eq_some_iff.1 hx).1
  have hmn := (List.getElem?_eq_some_iff.1 hy).1
  have hin1 : ∀ j, j < (litVals y ay ny cy).length → (w.cell? ⟨g, k * 8 + j, none⟩).isSome = true := by
    intro j hj
    rw [cX j _ (List.getElem?_eq_getElem (by rw [LX]; rw [LY] at hj; exact hj))]
    rfl
  have hin2 : ∀ j, j < (litVals x ax nx cx).length → ((w.setCells g (k * 8) (litVals y ay ny cy)).cell? ⟨g, m * 8 + j, none⟩).isSome = true := by
    intro j hj
    rw [LX] at hj
    by_cases hkm : k = m
    · subst hkm
      rw [World.cell?_setCells_in _ _ _ _ hin1 j (by rw [LY]; exact hj)]
      rfl
    · rw [World.cell?_setCells_out _ _ _ _ _ (fun _ _ => by rw [LY]; show m * 8 + j < k * 8 ∨ k * 8 + 8 ≤ m * 8 + j; omega), cY j _ (List.getElem?_eq_getElem (by rw [LY]; exact hj))]
      rfl
  -- the terms of what stands at a place
  have tr : ∀ (i : Nat) (l : Lit), ls[i]? = some l → ∀ (a : Option Addr) (n2 cap : Nat), (∀ j v, (litVals l a n2 cap)[j]? = some v → w.cell? ⟨g, i * 8 + j, none⟩ = some v) →
      (∀ ad, a = some ad → ad.block ≠ g ∧ lo ≤ ad.block) ∧ TermsAt w a n2 l.atom.terms ∧ capOk a n2 cap ∧ l.atom.pred.size ≤ maxLen ∧ l.left.text.size ≤ maxLen ∧ l.right.text.size ≤ maxLen := by
    intro i l hl a n2 cap hc
    obtain ⟨a', n', c', hc', hrest⟩ := h.2 i l hl
    have e1 := hc 2 _ rfl
    have e2 := hc' 2 _ rfl
    rw [e1] at e2
    cases e2
    exact hrest
  refine ⟨by simpa using h.1, fun i l hl => ?_⟩
  rw [List.getElem?_set, List.getElem?_set] at hl
  by_cases him : m = i
  · subst him
    rw [if_pos rfl, if_pos (by simpa using hmn)] at hl
    cases hl
    obtain ⟨t1, t2, t3⟩ := tr k _ hx ax nx cx cX
    refine ⟨ax, nx, cx, fun j v hj => ?_, t1, t2.other hbo (fun ad e => (t1 ad e).1), t3⟩
    have hj8 := (List.getElem?_eq_some_iff.1 hj).1
    rw [World.cell?_setCells_in _ _ _ _ hin2 j hj8]
    exact (List.getElem?_eq_getElem hj8).symm.trans hj
  · rw [if_neg him] at hl
    have ho : ∀ j, j < 8 → ((w.setCells g (k * 8) (litVals y ay ny cy)).setCells g (m * 8) (litVals x ax nx cx)).cell? ⟨g, i * 8 + j, none⟩ = (w.setCells g (k * 8) (litVals y ay ny cy)).cell? ⟨g, i * 8 + j, none⟩ := fun j hj =>
      World.cell?_setCells_out _ _ _ _ _ (fun _ _ => by rw [LX]; show i * 8 + j < m * 8 ∨ m * 8 + 8 ≤ i * 8 + j; omega)
    by_cases hik : k = i
    · subst hik
      rw [if_pos rfl, if_pos hkn] at hl
      cases hl
      obtain ⟨t1, t2, t3⟩ := tr m _ hy ay ny cy cY
      refine ⟨ay, ny, cy, fun j v hj => ?_, t1, t2.other hbo (fun ad e => (t1 ad e).1), t3⟩
      have hj8 := (List.getElem?_eq_some_iff.1 hj).1
      rw [ho j (by rw [LY] at hj8; exact hj8), World.cell?_setCells_in _ _ _ _ hin1 j hj8]
      exact (List.getElem?_eq_getElem hj8).symm.trans hj
    · rw [if_neg hik] at hl
      obtain ⟨a, n2, cap, hc, t1, t2, t3⟩ := h.2 i l hl
      refine ⟨a, n2, cap, fun j v hj => ?_, t1, t2.other hbo (fun ad e => (t1 ad e).1), t3⟩
      have hj8 : j < 8 := (List.getElem?_eq_some_iff.1 hj).1
      rw [ho j hj8, World.cell?_setCells_out _ _ _ _ _ (fun _ _ => by rw [LY]; show i * 8 + j < k * 8 ∨ k * 8 + 8 ≤ i * 8 + j; omega)]
      exact hc j v hj
theorem mem_swap {ls : List Lit} {k m : Nat} {x y : Lit} (hx : ls[k]? = some x) (hy : ls[m]? = some y) (l : Lit) : l ∈ (ls.set k y).set m x ↔ l ∈ ls := by
  have hkn := (List.getElem?_eq_some_iff.1 hx).1
  have hmn := (List.getElem?_eq_some_iff.1 hy).1
  have G : ∀ i : Nat, ((ls.set k y).set m x)[i]? = if m = i then some x else if k = i then some y else ls[i]? := by
    intro i
    rw [List.getElem?_set, List.getElem?_set]
    by_cases h1 : m = i
    · subst h1
      simp [hmn]
    · by_cases h2 : k = i
      · subst h2
        simp [h1, hkn]
      · simp [h1, h2]
  constructor
  · intro h
    obtain ⟨i, hi⟩ := List.mem_iff_getElem?.1 h
    rw [G] at hi
    split at hi
    · cases hi; exact List.mem_of_getElem? hx
    · split at hi
      · cases hi; exact List.mem_of_getElem? hy
      · exact List.mem_of_getElem? hi
  · intro h
    obtain ⟨i, hi⟩ := List.mem_iff_getElem?.1 h
    apply List.mem_iff_getElem?.2
    by_cases h1 : k = i
    · subst h1
      refine ⟨m, ?_⟩
      rw [G, if_pos rfl, ← hx, hi]
    · by_cases h2 : m = i
      · subst h2
        refine ⟨k, ?_⟩
        rw [G, if_neg (fun e => h1 e.symm), if_pos rfl, ← hy, hi]
      · exact ⟨i, by rw [G, if_neg h2, if_neg h1, hi]⟩
theorem frozen_of_own {w : World} {base e size n g cap : Nat} {xs : List Value} (h : w.ownsRow base e size (.slice (some ⟨g, 0, none⟩) n cap) n xs) (j : Nat) : w.frozen? ⟨g, j, none⟩ = false := by
  rcases h.2 with ⟨h1, _⟩ | ⟨g', c', cur, h1, _, h2, _⟩
  · cases h1
  · cases h1
    simp [World.frozen?, h2]
theorem RowX.low {w : World} {lo lo2 g n : Nat} {ls : List Lit} (h : RowX w lo g n ls) (hl : lo2 ≤ lo) : RowX w lo2 g n ls := by
  refine ⟨h.1, fun i l hi => ?_⟩
  obtain ⟨a, m, cap, hc, ha, h1⟩ := h.2 i l hi
  exact ⟨a, m, cap, hc, fun ad e => ⟨(ha ad e).1, Nat.le_trans hl (ha ad e).2⟩, h1⟩
theorem OwnR.set {w : World} {base : Nat} {r : Rule} {gh ch gb cb : Nat} (h : OwnR w base r gh ch gb cb) {a : Addr} (ha : a.block < base) (u : Value) : OwnR (w.setCell a u) base r gh ch gb cb := by
  obtain ⟨ps, h1, h2, h3⟩ := h.body
  exact ⟨h.head.set ha u, ps, h1, ⟨ownsRow_setCell_below h2.1 ha u, h2.2⟩, fun p hp => (h3 p hp).set ha u⟩
theorem OwnR.rowX {w : World} {base : Nat} {r : Rule} {gh ch gb cb : Nat} (h : OwnR w base r gh ch gb cb) {w0 : World} {ah : Option Addr} {nh c1 : Nat} {ab : Option Addr} {nb c2 : Nat} (hr : RuleV w0 r ah nh c1 ab nb c2) : RowX w base gb nb r.body ∧ (∀ j, w.frozen? ⟨gb, j, none⟩ = false) ∧ base ≤ gb ∧ gb ≠ gh := by
  have hr2 := h.rule hr
  obtain ⟨ps, hps, hL, hT⟩ := h.body
  have hlen : ps.length = nb := by rw [← hr.body.2.1, ← hps, List.length_map]
  have hap : ∀ (p : Lit × Nat × Nat), p ∈ ps → p.2.1 ≠ gb := by
    intro p hp
    rcases own_apart (hT p hp).1 hL.1 (by decide) with h1 | h1
    · simp [Value.ownBlock] at h1
    · simpa [Value.ownBlock] using h1
  refine ⟨⟨hr.body.2.1, fun i l hl => ?_⟩, frozen_of_own hL.1, ?_, ?_⟩
  · have hi : i < ps.length := by rw [hlen, ← hr.body.2.1]; exact (List.getElem?_eq_some_iff.1 hl).1
    obtain ⟨p, hp⟩ : ∃ p, ps[i]? = some p := ⟨_, List.getElem?_eq_getElem hi⟩
    have hpl : p.1 = l := by
      have e : (ps.map (·.1))[i]? = some p.1 := by rw [List.getElem?_map, hp]; rfl
      rw [hps, hl] at e
      exact (Option.some.inj e).symm
    have hpm := List.mem_of_getElem? hp
    have hne := hap p hpm
    obtain ⟨b, off, e, a, n, cap, h0, h1, h2, h3, h4, h5, h6, h7, ht, hcap, hs⟩ := hr2.body.2.2 i l hl
    cases e
    rw [Nat.zero_add] at h0 h1 h2 h3 h4 h5 h6 h7
    have C2 : w.cell? ⟨gb, i * 8 + 2, none⟩ = some (.slice (some ⟨p.2.1, 0, none⟩) p.1.atom.terms.length p.2.2) := by
      have e := flatL_get ps i 2 p hp (by omega)
      have := hL.1.cells (g := gb) rfl (i * 8 + 2) (.slice (some ⟨p.2.1, 0, none⟩) p.1.atom.terms.length p.2.2) (by rw [List.getElem?_append_left (by rw [flatL_len]; omega)]; exact e)
      rw [Addr.add_lit] at this
      rw [Nat.zero_add] at this
      exact this
    rw [h2] at C2
    cases C2
    refine ⟨_, _, _, fun j v hj => ?_, fun ad e => by cases e; exact ⟨hne, ((hT p hpm).1.lt p.2.1 rfl).1⟩, ht, hcap, hs⟩
    have hj8 := (List.getElem?_eq_some_iff.1 hj).1
    have : j < 8 := hj8
    match j, this with
    | 0, _ => cases hj; exact h0
    | 1, _ => cases hj; exact h1
    | 2, _ => cases hj; exact h2
    | 3, _ => cases hj; exact h3
    | 4, _ => cases hj; exact h4
    | 5, _ => cases hj; exact h5
    | 6, _ => cases hj; exact h6
    | 7, _ => cases hj; exact h7
  · exact (hL.1.lt gb rfl).1
  · intro e
    rcases own_apart h.head.1 hL.1 (by decide) with h1 | h1
    · simp [Value.ownBlock] at h1
    · simp [Value.ownBlock] at h1
      exact h1 e.symm
structure TurnSt (w0 : World) (r : Rule) (gh nh ch gb nb cb : Nat) (w : World) : Prop where
  old : Ext w0 w
  c0 : w.cell? ⟨w0.heap.size, 0, none⟩ = some (.string r.head.pred)
  c1 : w.cell? ⟨w0.heap.size, 1, none⟩ = some (.slice (some ⟨gh, 0, none⟩) nh ch)
  c2 : w.cell? ⟨w0.heap.size, 2, none⟩ = some (.slice (some ⟨gb, 0, none⟩) nb cb)
  d0 : w.cell? ⟨w0.heap.size + 1, 0, none⟩ = some (.string ⟨#[]⟩)
  d1 : w.cell? ⟨w0.heap.size + 1, 1, none⟩ = some (.slice none 0 0)
  d2 : w.cell? ⟨w0.heap.size + 1, 2, none⟩ = some (.slice none 0 0)
  f0 : w.frozen? ⟨w0.heap.size + 1, 0, none⟩ = false
  f1 : w.frozen? ⟨w0.heap.size + 1, 1, none⟩ = false
  f2 : w.frozen? ⟨w0.heap.size + 1, 2, none⟩ = false
  head : TermsAt w (some ⟨gh, 0, none⟩) nh r.head.terms
  apart : gb ≠ gh
  body : ∃ ls, (∀ l, l ∈ ls ↔ l ∈ r.body) ∧ RowX w (w0.heap.size + 2) gb nb ls
  fz : ∀ j, w.frozen? ⟨gb, j, none⟩ = false
theorem TurnSt.swap {w0 V : World} {r : Rule} {gh nh ch gb nb cb : Nat} (h : TurnSt w0 r gh nh ch gb nb cb V) (hg : w0.heap.size + 1 < gb) {ls : List Lit} (hl : ∀ l, l ∈ ls ↔ l ∈ r.body) (hr : RowX V (w0.heap.size + 2) gb nb ls) {k m : Nat} {x y : Lit} (hx : ls[k]? = some x) (hy : ls[m]? = some y) {ax ay : Option Addr} {nx cx ny cy : Nat}
    (cX : ∀ j v, (litVals x ax nx cx)[j]? = some v → V.cell? ⟨gb, k * 8 + j, none⟩ = some v) (cY : ∀ j v, (litVals y ay ny cy)[j]? = some v → V.cell? ⟨gb, m * 8 + j, none⟩ = some v) :
    TurnSt w0 r gh nh ch gb nb cb ((V.setCells gb (k * 8) (litVals y ay ny cy)).setCells gb (m * 8) (litVals x ax nx cx)) := by
  have hbo : ∀ p : Addr, p.block ≠ gb → ((V.setCells gb (k * 8) (litVals y ay ny cy)).setCells gb (m * 8) (litVals x ax nx cx)).cell? p = V.cell? p := by
    intro p hp
    rw [World.cell?_setCells_out _ _ _ _ _ (fun e => absurd e hp), World.cell?_setCells_out _ _ _ _ _ (fun e => absurd e hp)]
  have hfo : ∀ p : Addr, ((V.setCells gb (k * 8) (litVals y ay ny cy)).setCells gb (m * 8) (litVals x ax nx cx)).frozen? p = V.frozen? p := by
    intro p
    rw [World.frozen?_setCells, World.frozen?_setCells]
  have hse : ∀ (vs : List Value) (o : Nat) (U : World), Ext w0 U → Ext w0 (U.setCells gb o vs) := by
    intro vs
    induction vs with
    | nil => exact fun o U h => h
    | cons v vs ih => exact fun o U h => ih (o + 1) _ (ext_set h (by show w0.heap.size ≤ gb; omega) v)
  have n0 : w0.heap.size ≠ gb := by omega
  have n1 : w0.heap.size + 1 ≠ gb := by omega
  exact ⟨hse _ _ _ (hse _ _ _ h.old), (hbo ⟨_, 0, none⟩ n0).trans h.c0, (hbo ⟨_, 1, none⟩ n0).trans h.c1, (hbo ⟨_, 2, none⟩ n0).trans h.c2, (hbo ⟨_, 0, none⟩ n1).trans h.d0, (hbo ⟨_, 1, none⟩ n1).trans h.d1, (hbo ⟨_, 2, none⟩ n1).trans h.d2,
    (hfo _).trans h.f0, (hfo _).trans h.f1, (hfo _).trans h.f2, h.head.other hbo (fun ad e => by cases e; exact fun e => h.apart e.symm), h.apart, ⟨_, fun l => (mem_swap hx hy l).trans (hl l), hr.swap hx hy cX cY⟩, fun j => (hfo _).trans (h.fz j)⟩
theorem TurnSt.drewN {w0 V : World} {r : Rule} {gh nh ch gb nb cb : Nat} (h : TurnSt w0 r gh nh ch gb nb cb V) (n : Nat) : TurnSt w0 r gh nh ch gb nb cb (V.drewN n) := by
  have e := ext_drewN (Below.refl V.heap.size V) n
  obtain ⟨ls, h1, h2⟩ := h.body
  exact ⟨ext_trans h.old e, keep e h.c0, keep e h.c1, keep e h.c2, keep e h.d0, keep e h.d1, keep e h.d2, h.f0, h.f1, h.f2, h.head.keep e, h.apart, ⟨ls, h1, h2.keep e⟩, h.fz⟩
theorem TurnSt.drew {w0 V : World} {r : Rule} {gh nh ch gb nb cb : Nat} (h : TurnSt w0 r gh nh ch gb nb cb V) : TurnSt w0 r gh nh ch gb nb cb V.drew := h.drewN 1
theorem TurnSt.ext {w0 U V : World} {r : Rule} {gh nh ch gb nb cb : Nat} (h : TurnSt w0 r gh nh ch gb nb cb U) (e : Ext U V) (hf : ∀ j, V.frozen? ⟨gb, j, none⟩ = false) : TurnSt w0 r gh nh ch gb nb cb V := by
  obtain ⟨ls, h1, h2⟩ := h.body
  have hz := World.block_lt_of_cell? _ _ h.d0
  exact ⟨ext_trans h.old e, keep e h.c0, keep e h.c1, keep e h.c2, keep e h.d0, keep e h.d1, keep e h.d2, (e.frozen (p := ⟨_, 0, none⟩) hz).trans h.f0, (e.frozen (p := ⟨_, 1, none⟩) hz).trans h.f1, (e.frozen (p := ⟨_, 2, none⟩) hz).trans h.f2, h.head.keep e, h.apart, ⟨ls, h1, h2.keep e⟩, hf⟩
theorem setCells8 (w : World) (gb o : Nat) (v0 v1 v2 v3 v4 v5 v6 v7 : Value) : w.setCells gb o [v0, v1, v2, v3, v4, v5, v6, v7] = ((((((((w.setCell ⟨gb, o, none⟩ (v0)).setCell ⟨gb, o + 1, none⟩ (v1)).setCell ⟨gb, o + 2, none⟩ (v2)).setCell ⟨gb, o + 3, none⟩ (v3)).setCell ⟨gb, o + 4, none⟩ (v4)).setCell ⟨gb, o + 5, none⟩ (v5)).setCell ⟨gb, o + 6, none⟩ (v6)).setCell ⟨gb, o + 7, none⟩ (v7)) := rfl
theorem TurnSt.swap8 {w0 V : World} {r : Rule} {gh nh ch gb nb cb : Nat} (h : TurnSt w0 r gh nh ch gb nb cb V) (hg : w0.heap.size + 1 < gb) {ls : List Lit} (hl : ∀ l, l ∈ ls ↔ l ∈ r.body) (hr : RowX V (w0.heap.size + 2) gb nb ls) {k m : Nat} {x y : Lit} (hx : ls[k]? = some x) (hy : ls[m]? = some y) {ax ay : Option Addr} {nx cx ny cy : Nat}
    (cX : ∀ j v, (litVals x ax nx cx)[j]? = some v → V.cell? ⟨gb, k * 8 + j, none⟩ = some v) (cY : ∀ j v, (litVals y ay ny cy)[j]? = some v → V.cell? ⟨gb, m * 8 + j, none⟩ = some v) :
    TurnSt w0 r gh nh ch gb nb cb (((((((((((((((((V.setCell ⟨gb, k * 8, none⟩ (.int .i64 y.kind)).setCell ⟨gb, k * 8 + 1, none⟩ (.string y.atom.pred)).setCell ⟨gb, k * 8 + 2, none⟩ (.slice ay ny cy)).setCell ⟨gb, k * 8 + 3, none⟩ (.int .i64 y.op)).setCell ⟨gb, k * 8 + 4, none⟩ (.int .i64 y.left.kind)).setCell ⟨gb, k * 8 + 5, none⟩ (.string y.left.text)).setCell ⟨gb, k * 8 + 6, none⟩ (.int .i64 y.right.kind)).setCell ⟨gb, k * 8 + 7, none⟩ (.string y.right.text)).setCell ⟨gb, m * 8, none⟩ (.int .i64 x.kind)).setCell ⟨gb, m * 8 + 1, none⟩ (.string x.atom.pred)).setCell ⟨gb, m * 8 + 2, none⟩ (.slice ax nx cx)).setCell ⟨gb, m * 8 + 3, none⟩ (.int .i64 x.op)).setCell ⟨gb, m * 8 + 4, none⟩ (.int .i64 x.left.kind)).setCell ⟨gb, m * 8 + 5, none⟩ (.string x.left.text)).setCell ⟨gb, m * 8 + 6, none⟩ (.int .i64 x.right.kind)).setCell ⟨gb, m * 8 + 7, none⟩ (.string x.right.text)).drew) := by
  have := h.swap hg hl hr hx hy cX cY
  rw [litVals, litVals, setCells8, setCells8] at this
  exact this.drew
theorem set3 {w : World} {b : Nat} {u0 u1 u2 : Value} (h0 : w.cell? ⟨b, 0, none⟩ = some u0) (h1 : w.cell? ⟨b, 1, none⟩ = some u1) (h2 : w.cell? ⟨b, 2, none⟩ = some u2) (p q s : Value) {W : World}
    (hW : ((w.setCell ⟨b, 0, none⟩ p).setCell ⟨b, 1, none⟩ q).setCell ⟨b, 2, none⟩ s = W) :
    W.cell? ⟨b, 0, none⟩ = some p ∧ W.cell? ⟨b, 1, none⟩ = some q ∧ W.cell? ⟨b, 2, none⟩ = some s ∧ (∀ a : Addr, a.block ≠ b → W.cell? a = w.cell? a) ∧ (∀ a, W.frozen? a = w.frozen? a) ∧ W.heap.size = w.heap.size := by
  subst hW
  have o1 : (w.setCell ⟨b, 0, none⟩ p).cell? ⟨b, 1, none⟩ = some u1 := by rw [World.cell?_setCell_other]; exact h1; simp
  have o2 : ((w.setCell ⟨b, 0, none⟩ p).setCell ⟨b, 1, none⟩ q).cell? ⟨b, 2, none⟩ = some u2 := by rw [World.cell?_setCell_other, World.cell?_setCell_other]; exact h2; simp; simp
  refine ⟨?_, ?_, World.cell?_setCell_same _ _ _ o2, fun a ha => ?_, fun a => by simp, by simp⟩
  · rw [World.cell?_setCell_other, World.cell?_setCell_other]; exact World.cell?_setCell_same _ _ _ h0; simp; simp
  · rw [World.cell?_setCell_other]; exact World.cell?_setCell_same _ _ _ o1; simp
  · rw [World.cell?_setCell_other, World.cell?_setCell_other, World.cell?_setCell_other]
    · intro e; exact ha (by rw [← e])
    · intro e; exact ha (by rw [← e])
    · intro e; exact ha (by rw [← e])
theorem TurnSt.done {w0 V : World} {r : Rule} {gh nh ch gb nb cb : Nat} (h : TurnSt w0 r gh nh ch gb nb cb V) (hg : w0.heap.size + 1 < gb) (hgh : w0.heap.size + 1 ≠ gh) (hp : r.head.pred.size ≤ maxLen) (hn : nb ≤ 1353245080303) (hc : capOk (some (⟨gh, 0, none⟩ : Addr)) nh ch) (bc : capOk (some (⟨gb, 0, none⟩ : Addr)) nb cb) (u0 u1 u2 : Value) :
    ∃ r' : Rule, r'.head.pred = r.head.pred ∧ Alike r r' ∧ RuleV (((V.setCell ⟨w0.heap.size + 1, 0, none⟩ u0).setCell ⟨w0.heap.size + 1, 1, none⟩ u1).setCell ⟨w0.heap.size + 1, 2, none⟩ u2) r' (some ⟨gh, 0, none⟩) nh ch (some ⟨gb, 0, none⟩) nb cb := by
  obtain ⟨ls, h1, h2⟩ := h.body
  obtain ⟨_, _, _, cz, _, _⟩ := set3 h.d0 h.d1 h.d2 u0 u1 u2 rfl
  generalize ((V.setCell ⟨w0.heap.size + 1, 0, none⟩ u0).setCell ⟨w0.heap.size + 1, 1, none⟩ u1).setCell ⟨w0.heap.size + 1, 2, none⟩ u2 = F at cz ⊢
  refine ⟨⟨r.head, ls⟩, rfl, ⟨rfl, h1⟩, hp, h.head.other cz (fun ad e => by cases e; exact hgh.symm), ⟨hn, h2.1, fun i l hl => ⟨gb, 0, rfl, ?_⟩⟩, hc, bc⟩
  rw [Nat.zero_add]
  refine litX.lit (lo := w0.heap.size + 2) (g := gb) ?_
  obtain ⟨a, n, cap, hcc, hne, ht, hrest⟩ := h2.2 i l hl
  refine ⟨a, n, cap, fun j v hj => (cz ⟨gb, _, none⟩ (show gb ≠ w0.heap.size + 1 by omega)).trans (hcc j v hj), hne, ht.other cz (fun ad e => by have := (hne ad e).2; omega), hrest⟩
set_option maxRecDepth 20000 in
set_option maxHeartbeats 4000000 in
theorem c_turned (r : Rule) (ah : Option Addr) (nh ch : Nat) (ab : Option Addr) (nb cb : Nat) (at_ : Option Addr) (nt ct : Nat) (xs : List Int) (w : World) (hr : RuleV w r ah nh ch ab nb cb) (ht : IntsAt w at_ nt xs) :
    Calls Try.prog 17 #[.agg #[.string r.head.pred, .slice ah nh ch, .slice ab nb cb], .slice at_ nt ct] w fun e w' => ∃ r' ah' nh' ch' ab' nb' cb', e = .returned (.agg #[.string r'.head.pred, .slice ah' nh' ch', .slice ab' nb' cb']) ∧ Alike r r' ∧ RuleV w' r' ah' nh' ch' ab' nb' cb' ∧ Ext w w' := by
  have HR := Lib.hid hr
  have HN := Lib.hid hr.body.1
  have HT := Lib.hid ht
  clear hr ht
  go_enter Try.func17, Try.ntmps17
  go_upto_region 1 with (fail)
  refine wp_gen (fun W hW => ?_)
  have hb0 : Ext w W := by rw [hW]; go_grown
  have x0 : W.cell? ⟨w.heap.size, 0, none⟩ = some (.string r.head.pred) := by rw [hW]; go_simp
  have x1 : W.cell? ⟨w.heap.size, 1, none⟩ = some (.slice ah nh ch) := by rw [hW]; go_simp
  have x2 : W.cell? ⟨w.heap.size, 2, none⟩ = some (.slice ab nb cb) := by rw [hW]; go_simp
  have z0 : W.cell? ⟨w.heap.size + 1, 0, none⟩ = some (.string ⟨#[]⟩) := by rw [hW]; go_simp
  have z1 : W.cell? ⟨w.heap.size + 1, 1, none⟩ = some (.slice none 0 0) := by rw [hW]; go_simp
  have z2 : W.cell? ⟨w.heap.size + 1, 2, none⟩ = some (.slice none 0 0) := by rw [hW]; go_simp
  have f0 : W.frozen? ⟨w.heap.size, 0, none⟩ = false := by rw [hW]; go_simp
  have f1 : W.frozen? ⟨w.heap.size, 1, none⟩ = false := by rw [hW]; go_simp
  have f2 : W.frozen? ⟨w.heap.size, 2, none⟩ = false := by rw [hW]; go_simp
  have q0 : W.frozen? ⟨w.heap.size + 1, 0, none⟩ = false := by rw [hW]; go_simp
  have q1 : W.frozen? ⟨w.heap.size + 1, 1, none⟩ = false := by rw [hW]; go_simp
  have q2 : W.frozen? ⟨w.heap.size + 1, 2, none⟩ = false := by rw [hW]; go_simp
  have hz : w.heap.size + 1 < W.heap.size := World.block_lt_of_cell? _ _ z0
  have hz' : w.heap.size < W.heap.size := by omega
  clear hW
  go_upto_region 2 with (go_at_call 12; (with_reducible refine (c_own r ah nh ch _ _ _ _ (HR.out.keep hb0)).mono ?_); rintro e w1 ⟨gh, ch', gb, cb', rfl, hown1, hb1⟩; have a0 := keep hb1 x0; have a1 := keep hb1 x1; have a2 := keep hb1 x2; have k0 := (hb1.frozen (p := ⟨w.heap.size, 0, none⟩) hz').trans f0; have k1 := (hb1.frozen (p := ⟨w.heap.size, 1, none⟩) hz').trans f1; have k2 := (hb1.frozen (p := ⟨w.heap.size, 2, none⟩) hz').trans f2)
  refine wp_gen (fun W1 hW1 => ?_)
  obtain ⟨c0, c1, c2, cz, fz, sz⟩ := set3 a0 a1 a2 _ _ _ hW1.symm
  have hown2 : OwnR W1 W.heap.size r gh ch' gb cb' := by rw [hW1]; exact ((hown1.set (a := ⟨w.heap.size, 0, none⟩) hz' _).set (a := ⟨w.heap.size, 1, none⟩) hz' _).set (a := ⟨w.heap.size, 2, none⟩) hz' _
  obtain ⟨hX, hfz, hgb, hgg⟩ := hown2.rowX HR.out
  have hR1 := hown2.rule HR.out
  have hbw : w.heap.size + 1 < gb := Nat.lt_of_lt_of_le hz hgb
  have HGH := Lib.hid (show w.heap.size + 1 < gh from Nat.lt_of_lt_of_le hz (hown2.head.1.lt gh rfl).1)
  have HC := Lib.hid hR1.hcap
  have BC := Lib.hid hR1.bcap
  have st : TurnSt w r gh nh ch' gb nb cb' W1 := by
    have hne : ∀ g : Nat, W.heap.size ≤ g → g ≠ w.heap.size := fun g hg => by omega
    have hb2 : Ext w W1 := by rw [hW1]; exact ext_set (ext_set (ext_set (ext_trans hb0 hb1) (Nat.le_refl _) _) (Nat.le_refl _) _) (Nat.le_refl _) _
    refine ⟨hb2, c0, c1, c2, (cz _ (by show w.heap.size + 1 ≠ w.heap.size; omega)).trans (keep hb1 z0), (cz _ (by show w.heap.size + 1 ≠ w.heap.size; omega)).trans (keep hb1 z1), (cz _ (by show w.heap.size + 1 ≠ w.heap.size; omega)).trans (keep hb1 z2), (fz _).trans ((hb1.frozen (p := ⟨w.heap.size + 1, 0, none⟩) hz).trans q0), (fz _).trans ((hb1.frozen (p := ⟨w.heap.size + 1, 1, none⟩) hz).trans q1), (fz _).trans ((hb1.frozen (p := ⟨w.heap.size + 1, 2, none⟩) hz).trans q2), hR1.terms, hgg, ⟨r.body, fun _ => Iff.rfl, hX.low hz⟩, hfz⟩
  have HS := Lib.hid st
  clear st hW1 cz fz sz hX hfz hR1 hown1 hown2 hgb hgg c0 c1 c2 a0 a1 a2 k0 k1 k2 z0 z1 z2 q0 q1 q2 f0 f1 f2 x0 x1 x2 hb0 hb1
  go_wp2
  go_loopw [5] (fun i wj => ∃ k, k ≤ nt ∧ i = .int .i64 (k : Int) ∧ TurnSt w r gh nh ch' gb nb cb' wj) (fun i _ => nt - (intOf i).toNat)
  case atStart => exact ⟨0, by omega, rfl, HS.out⟩
  case round =>
    obtain ⟨k, hk, rfl, hs⟩ := hrel
    have v2 := hs.c2
    have HSi := Lib.hid hs
    clear hs
    by_cases hge : nt ≤ k
    · have w0c := HSi.out.d0
      have w1c := HSi.out.d1
      have w2c := HSi.out.d2
      have f0 := HSi.out.f0
      have f1 := HSi.out.f1
      have f2 := HSi.out.f2
      have x0 := HSi.out.c0
      have x1 := HSi.out.c1
      go_wp2
      obtain ⟨S0, S1, S2, _, _, _⟩ := set3 w0c w1c w2c (.string r.head.pred) (.slice (some ⟨gh, 0, none⟩) nh ch') (.slice (some ⟨gb, 0, none⟩) nb cb') rfl
      obtain ⟨r', hr1, hr2, hr3⟩ := HSi.out.done hbw (by have := HGH.out; omega) HR.out.pred HN.out HC.out BC.out (.string r.head.pred) (.slice (some ⟨gh, 0, none⟩) nh ch') (.slice (some ⟨gb, 0, none⟩) nb cb')
      have E6 := ext_set (ext_set (ext_set HSi.out.old (p := ⟨w.heap.size + 1, 0, none⟩) (Nat.le_succ _) (.string r.head.pred)) (p := ⟨w.heap.size + 1, 1, none⟩) (Nat.le_succ _) (.slice (some ⟨gh, 0, none⟩) nh ch')) (p := ⟨w.heap.size + 1, 2, none⟩) (Nat.le_succ _) (.slice (some ⟨gb, 0, none⟩) nb cb')
      generalize (((wr.setCell ⟨w.heap.size + 1, 0, none⟩ (.string r.head.pred)).setCell ⟨w.heap.size + 1, 1, none⟩ (.slice (some ⟨gh, 0, none⟩) nh ch')).setCell ⟨w.heap.size + 1, 2, none⟩ (.slice (some ⟨gb, 0, none⟩) nb cb')) = W6 at S0 S1 S2 hr3 E6 ⊢
      refine bodyPost_ret (by simp [results, Try.results17, go_sem, S0, S1, S2]; try rfl) rfl ?_
      exact ⟨r', _, _, _, _, _, _, by rw [hr1], hr2, hr3, E6⟩
    · have hlt : k < nt := by omega
      by_cases hnb : nb = 0
      · subst hnb
        have w0c := HSi.out.d0
        have w1c := HSi.out.d1
        have w2c := HSi.out.d2
        have f0 := HSi.out.f0
        have f1 := HSi.out.f1
        have f2 := HSi.out.f2
        have x0 := HSi.out.c0
        have x1 := HSi.out.c1
        go_wp2
        obtain ⟨S0, S1, S2, _, _, _⟩ := set3 w0c w1c w2c (.string r.head.pred) (.slice (some ⟨gh, 0, none⟩) nh ch') (.slice (some ⟨gb, 0, none⟩) 0 cb') rfl
        obtain ⟨r', hr1, hr2, hr3⟩ := HSi.out.done hbw (by have := HGH.out; omega) HR.out.pred HN.out HC.out BC.out (.string r.head.pred) (.slice (some ⟨gh, 0, none⟩) nh ch') (.slice (some ⟨gb, 0, none⟩) 0 cb')
        have E6 := ext_set (ext_set (ext_set HSi.out.old (p := ⟨w.heap.size + 1, 0, none⟩) (Nat.le_succ _) (.string r.head.pred)) (p := ⟨w.heap.size + 1, 1, none⟩) (Nat.le_succ _) (.slice (some ⟨gh, 0, none⟩) nh ch')) (p := ⟨w.heap.size + 1, 2, none⟩) (Nat.le_succ _) (.slice (some ⟨gb, 0, none⟩) 0 cb')
        generalize (((wr.setCell ⟨w.heap.size + 1, 0, none⟩ (.string r.head.pred)).setCell ⟨w.heap.size + 1, 1, none⟩ (.slice (some ⟨gh, 0, none⟩) nh ch')).setCell ⟨w.heap.size + 1, 2, none⟩ (.slice (some ⟨gb, 0, none⟩) 0 cb')) = W6 at S0 S1 S2 hr3 E6 ⊢
        refine bodyPost_ret (by simp [results, Try.results17, go_sem, S0, S1, S2]; try rfl) rfl ?_
        exact ⟨r', _, _, _, _, _, _, by rw [hr1], hr2, hr3, E6⟩
      · obtain ⟨x, ba, oa, hx, rfl, hca⟩ := HT.out.2.at (i := k) hlt
        have hca' : wr.cell? ⟨ba, oa + k, none⟩ = some (.int .i64 x) := by have := keep HSi.out.old hca; simpa [intAt] using this
        have hnn := HN.out
        have hlt' : (k : Int) < (nt : Int) := by omega
        have hnt : nt ≤ 9223372036854775807 := by have := HT.out.1; unfold maxLen at this; omega
        have hnb' : ¬ (nb : Int) = 0 := by omega
        have tm0 : x.tmod nb < nb := Int.tmod_lt_of_pos _ (by omega)
        have tm1 : -(nb : Int) < x.tmod nb := by
          have h1 : -x.tmod nb < nb := by rw [← Int.neg_tmod]; exact Int.tmod_lt_of_pos _ (by omega)
          omega
        obtain ⟨K, hK, hKn⟩ : ∃ K : Nat, (if x.tmod nb < 0 then x.tmod nb + nb else x.tmod nb) = (K : Int) ∧ K < nb := by
          by_cases h : x.tmod nb < 0
          · exact ⟨(x.tmod nb + nb).toNat, by rw [if_pos h]; omega, by omega⟩
          · exact ⟨(x.tmod nb).toNat, by rw [if_neg h]; omega, by omega⟩
        obtain ⟨N, hN, hNn⟩ : ∃ N : Nat, (k : Int) % nb = (N : Int) ∧ N < nb := ⟨k % nb, rfl, Nat.mod_lt _ (by omega)⟩
        obtain ⟨ls, hls, hrow⟩ := HSi.out.body
        obtain ⟨lk, hlk⟩ : ∃ l, ls[K]? = some l := ⟨_, List.getElem?_eq_getElem (by rw [hrow.1]; exact hKn)⟩
        obtain ⟨ln, hln⟩ : ∃ l, ls[N]? = some l := ⟨_, List.getElem?_eq_getElem (by rw [hrow.1]; exact hNn)⟩
        obtain ⟨a1, n1, p1, cX, rest1⟩ := hrow.2 K lk hlk
        obtain ⟨a2, n2, p2, cY, rest2⟩ := hrow.2 N ln hln
        have CX := Lib.hid cX
        have CY := Lib.hid cY
        have HRW := Lib.hid hrow
        have HLS := Lib.hid hls
        have HLK := Lib.hid hlk
        have HLN := Lib.hid hln
        clear cX cY rest1 rest2 hrow hls hlk hln
        go_wp2
        go_quiet (fail)
        go_upto_if 31 with (fail)
        refine wp_gen (fun V hV => ?_)
        have hVe : Ext wr V := by rw [hV]; exact ext_drewN (Below.refl _ _) _
        have v2' := keep hVe v2
        have hf : ∀ j, V.frozen? ⟨gb, j, none⟩ = false := by rw [hV]; exact HSi.out.fz
        clear hV
        go_cut [6] (fun v6 wc => v6 = .int .i64 (K : Int) ∧ V = wc)
        case first =>
          by_cases hs : x.tmod nb < 0
          · rw [if_pos hs] at hK
            go_wp2
            go_meet
            exact ⟨rfl, rfl⟩
          · rw [if_neg hs] at hK
            go_wp2
            go_meet
            exact ⟨rfl, rfl⟩
        case rest =>
          obtain ⟨rfl, rfl⟩ := hcut
          go_wp2
          rw [hN]
          have hf' : ∀ j, V.drew.frozen? ⟨gb, j, none⟩ = false := hf
          have v2'' : V.drew.cell? ⟨w.heap.size, 2, none⟩ = some (.slice (some ⟨gb, 0, none⟩) nb cb') := v2'
          have A0 : V.cell? ⟨gb, K * 8, none⟩ = some (.int .i64 lk.kind) := keep hVe (CX.out 0 _ rfl)
          have A1 : V.cell? ⟨gb, K * 8 + 1, none⟩ = some (.string lk.atom.pred) := keep hVe (CX.out 1 _ rfl)
          have A2 : V.cell? ⟨gb, K * 8 + 2, none⟩ = some (.slice a1 n1 p1) := keep hVe (CX.out 2 _ rfl)
          have A3 : V.cell? ⟨gb, K * 8 + 3, none⟩ = some (.int .i64 lk.op) := keep hVe (CX.out 3 _ rfl)
          have A4 : V.cell? ⟨gb, K * 8 + 4, none⟩ = some (.int .i64 lk.left.kind) := keep hVe (CX.out 4 _ rfl)
          have A5 : V.cell? ⟨gb, K * 8 + 5, none⟩ = some (.string lk.left.text) := keep hVe (CX.out 5 _ rfl)
          have A6 : V.cell? ⟨gb, K * 8 + 6, none⟩ = some (.int .i64 lk.right.kind) := keep hVe (CX.out 6 _ rfl)
          have A7 : V.cell? ⟨gb, K * 8 + 7, none⟩ = some (.string lk.right.text) := keep hVe (CX.out 7 _ rfl)
          have B0 : V.cell? ⟨gb, N * 8, none⟩ = some (.int .i64 ln.kind) := keep hVe (CY.out 0 _ rfl)
          have B1 : V.cell? ⟨gb, N * 8 + 1, none⟩ = some (.string ln.atom.pred) := keep hVe (CY.out 1 _ rfl)
          have B2 : V.cell? ⟨gb, N * 8 + 2, none⟩ = some (.slice a2 n2 p2) := keep hVe (CY.out 2 _ rfl)
          have B3 : V.cell? ⟨gb, N * 8 + 3, none⟩ = some (.int .i64 ln.op) := keep hVe (CY.out 3 _ rfl)
          have B4 : V.cell? ⟨gb, N * 8 + 4, none⟩ = some (.int .i64 ln.left.kind) := keep hVe (CY.out 4 _ rfl)
          have B5 : V.cell? ⟨gb, N * 8 + 5, none⟩ = some (.string ln.left.text) := keep hVe (CY.out 5 _ rfl)
          have B6 : V.cell? ⟨gb, N * 8 + 6, none⟩ = some (.int .i64 ln.right.kind) := keep hVe (CY.out 6 _ rfl)
          have B7 : V.cell? ⟨gb, N * 8 + 7, none⟩ = some (.string ln.right.text) := keep hVe (CY.out 7 _ rfl)
          have A0' : V.drew.cell? ⟨gb, K * 8, none⟩ = some (.int .i64 lk.kind) := A0
          have A1' : V.drew.cell? ⟨gb, K * 8 + 1, none⟩ = some (.string lk.atom.pred) := A1
          have A2' : V.drew.cell? ⟨gb, K * 8 + 2, none⟩ = some (.slice a1 n1 p1) := A2
          have A3' : V.drew.cell? ⟨gb, K * 8 + 3, none⟩ = some (.int .i64 lk.op) := A3
          have A4' : V.drew.cell? ⟨gb, K * 8 + 4, none⟩ = some (.int .i64 lk.left.kind) := A4
          have A5' : V.drew.cell? ⟨gb, K * 8 + 5, none⟩ = some (.string lk.left.text) := A5
          have A6' : V.drew.cell? ⟨gb, K * 8 + 6, none⟩ = some (.int .i64 lk.right.kind) := A6
          have A7' : V.drew.cell? ⟨gb, K * 8 + 7, none⟩ = some (.string lk.right.text) := A7
          have B0' : V.drew.cell? ⟨gb, N * 8, none⟩ = some (.int .i64 ln.kind) := B0
          have B1' : V.drew.cell? ⟨gb, N * 8 + 1, none⟩ = some (.string ln.atom.pred) := B1
          have B2' : V.drew.cell? ⟨gb, N * 8 + 2, none⟩ = some (.slice a2 n2 p2) := B2
          have B3' : V.drew.cell? ⟨gb, N * 8 + 3, none⟩ = some (.int .i64 ln.op) := B3
          have B4' : V.drew.cell? ⟨gb, N * 8 + 4, none⟩ = some (.int .i64 ln.left.kind) := B4
          have B5' : V.drew.cell? ⟨gb, N * 8 + 5, none⟩ = some (.string ln.left.text) := B5
          have B6' : V.drew.cell? ⟨gb, N * 8 + 6, none⟩ = some (.int .i64 ln.right.kind) := B6
          have B7' : V.drew.cell? ⟨gb, N * 8 + 7, none⟩ = some (.string ln.right.text) := B7
          have hKi : (K : Int) < (nb : Int) := by omega
          have hNi : (N : Int) < (nb : Int) := by omega
          by_cases hKN : K = N
          · subst hKN
            obtain rfl : lk = ln := Option.some.inj (HLK.out.symm.trans HLN.out)
            have e2 := A2.symm.trans B2
            simp only [Option.some.injEq, Value.slice.injEq] at e2
            obtain ⟨rfl, rfl, rfl⟩ := e2
            clear B0 B1 B2 B3 B4 B5 B6 B7 B0' B1' B2' B3' B4' B5' B6' B7' hNi
            go_region
            all_goals
              go_wp2
              go_roundw
              case rel => exact ⟨k + 1, by omega, by go_num, (HSi.out.ext hVe hf).swap8 hbw HLS.out (HRW.out.keep hVe) HLK.out HLN.out (fun j v hj => keep hVe (CX.out j v hj)) (fun j v hj => keep hVe (CY.out j v hj))⟩
              case measure => simp [intOf]; omega
          · go_region
            all_goals
              go_wp2
              go_roundw
              case rel => exact ⟨k + 1, by omega, by go_num, (HSi.out.ext hVe hf).swap8 hbw HLS.out (HRW.out.keep hVe) HLK.out HLN.out (fun j v hj => keep hVe (CX.out j v hj)) (fun j v hj => keep hVe (CY.out j v hj))⟩
              case measure => simp [intOf]; omega
end Go.Proofs.Ytcphjfggjjonpaa
