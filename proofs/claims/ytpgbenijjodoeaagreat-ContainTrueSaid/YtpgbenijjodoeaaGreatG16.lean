/- The walks of contain.Within and contain.Same. Copies: append of whatever slice onto one of the call's own; the walks of the law's ownAtom and own. The walk of the law's own. -/
import Derived.Test.YtpgbenijjodoeaaGreatG15
import Derived.Laws.AppendOwnNone
namespace Go.Proofs.YtpgbenijjodoeaaGreat.K
open Go.ChangeShapes Go.WideShapes Go.ChangeAt Go.RowKit
theorem laid_zero {r s : Rule} {l : List Nat} (h : (laid r s).2 = some l) : (laid r s).1 = 0 := by
  revert h
  unfold laid
  repeat' split
  all_goals simp
/-- What Laid answers, in one shape. -/
def LaidOut (r s : Rule) (w : World) (v : Value) (w' : World) : Prop :=
  (∃ a n cap, v = .slice a n cap) ∧ ((laid r s).2 = none → v = .slice none 0 0) ∧ ∀ l, (laid r s).2 = some l → w'.ownsRow w.heap.size 3 1 v l.length (intsV l)
theorem c_Laid2 (r s : Rule) (ah : Option Addr) (nh ch : Nat) (ab : Option Addr) (nb cb : Nat) (ah' : Option Addr) (nh' ch' : Nat) (ab' : Option Addr) (nb' cb' : Nat) (w : World) (hr : RuleV w r ah nh ch ab nb cb) (hs : RuleV w s ah' nh' ch' ab' nb' cb') :
    Calls Tryz.prog 18 #[.agg #[.string r.head.pred, .slice ah nh ch, .slice ab nb cb], .agg #[.string s.head.pred, .slice ah' nh' ch', .slice ab' nb' cb']] w
      fun e w' => ∃ a n cap, e = .returned (.tuple #[.slice a n cap, .bool (laid r s).2.isSome, .int .i64 (laid r s).1]) ∧ Ext w w' ∧ LaidOut r s w (.slice a n cap) w' := by
  refine (c_Laid r s ah nh ch ab nb cb ah' nh' ch' ab' nb' cb' w hr hs).mono fun e w' h => ?_
  obtain ⟨hb, h⟩ := h
  cases hl : (laid r s).2 with
  | none =>
    rw [hl] at h
    exact ⟨none, 0, 0, h, hb, ⟨_, _, _, rfl⟩, fun _ => rfl, fun l hl' => by rw [hl] at hl'; cases hl'⟩
  | some l =>
    rw [hl] at h
    obtain ⟨v, rfl, ho⟩ := h
    obtain ⟨a, cap, rfl, _⟩ := own_form ho
    exact ⟨a, _, cap, by rw [laid_zero hl]; rfl, hb, ⟨_, _, _, rfl⟩, fun hl' => by (rw [hl] at hl'; cases hl'), fun l' hl' => by rw [hl] at hl'; cases hl'; exact ho⟩
theorem c_Within (r s : Rule) (ah : Option Addr) (nh ch : Nat) (ab : Option Addr) (nb cb : Nat) (ah' : Option Addr) (nh' ch' : Nat) (ab' : Option Addr) (nb' cb' : Nat) (w : World) (hr : RuleV w r ah nh ch ab nb cb) (hs : RuleV w s ah' nh' ch' ab' nb' cb') :
    Calls Tryz.prog 5 #[.agg #[.string r.head.pred, .slice ah nh ch, .slice ab nb cb], .agg #[.string s.head.pred, .slice ah' nh' ch', .slice ab' nb' cb']] w fun e w' => e = .returned (.tuple #[.bool (laid r s).2.isSome, .int .i64 (laid r s).1]) ∧ Ext w w' := by
  have HR := Lib.hid hr
  have HS := Lib.hid hs
  clear hr hs
  go_enter Tryz.func5, Tryz.ntmps5
  go_wp2_with (go_at_call 18; (with_reducible refine (c_Laid2 r s _ _ _ _ _ _ _ _ _ _ _ _ _ (HR.out.keep (ext_alloc (ext_alloc (Below.refl _ _) _) _)) (HS.out.keep (ext_alloc (ext_alloc (Below.refl _ _) _) _))).mono ?_); rintro e w1 ⟨a, n, cap, rfl, hb, _⟩)
  go_ret2
  exact ⟨rfl, ext_after hb (ext_alloc (ext_alloc (Below.refl _ _) _) _)⟩
end Go.Proofs.YtpgbenijjodoeaaGreat.K
namespace Go.Proofs.YtpgbenijjodoeaaGreat.K
open Go.ChangeShapes Go.WideShapes Go.ChangeAt Go.RowKit
section
variable {P : Program} {w : World}
end
def flatT (ts : List Term) : List Value := ts.flatMap fun t => [.int .i64 t.kind, .string t.text]
theorem flatT_len (ts : List Term) : (flatT ts).length = ts.length * 2 := by
  induction ts with
  | nil => rfl
  | cons t ts ih => simp only [flatT, List.flatMap_cons, List.length_append, List.length_cons, List.length_nil] at ih ⊢; omega
theorem flatT_append (a b : List Term) : flatT (a ++ b) = flatT a ++ flatT b := by simp [flatT]
theorem flatT_one (ts : List Term) : ∀ u ∈ flatT ts, u.oneCell' = true := by
  intro u hu
  obtain ⟨t, _, h⟩ := List.mem_flatMap.1 hu
  simp at h
  rcases h with rfl | rfl <;> rfl
theorem flatT_get (ts : List Term) (i : Nat) (t : Term) (h : ts[i]? = some t) : (flatT ts)[i * 2]? = some (.int .i64 t.kind) ∧ (flatT ts)[i * 2 + 1]? = some (.string t.text) := by
  induction ts generalizing i with
  | nil => simp at h
  | cons a ts ih =>
    cases i with
    | zero => simp at h; subst h; simp [flatT]
    | succ i =>
      have := ih i (by simpa using h)
      have e : (flatT (a :: ts)) = [.int .i64 a.kind, .string a.text] ++ flatT ts := by simp [flatT]
      rw [e, show (i + 1) * 2 = i * 2 + 2 by omega, show i * 2 + 2 + 1 = (i * 2 + 1) + 2 by omega]
      simpa using this
theorem flatT_cell {w : World} {a : Option Addr} {n : Nat} {ts : List Term} (h : TermsAt w a n ts) {ad : Addr} (ha : a = some ad) : ∀ j u, (flatT ts)[j]? = some u → w.cell? (ad.add j) = some u := by
  intro j u hu
  have hj := (List.getElem?_eq_some_iff.1 hu).1
  rw [flatT_len] at hj
  have hi : j / 2 < ts.length := by omega
  obtain ⟨b, off, e, h1, h2, _⟩ := h.2.2 (j / 2) ts[j / 2] (List.getElem?_eq_getElem hi)
  rw [ha] at e
  cases e
  obtain ⟨g1, g2⟩ := flatT_get ts (j / 2) _ (List.getElem?_eq_getElem hi)
  rw [Addr.add_lit]
  rcases Nat.mod_two_eq_zero_or_one j with hm | hm
  · have e : j / 2 * 2 = j := by omega
    rw [e] at g1 h1
    rw [g1] at hu
    cases hu
    exact h1
  · have e : j / 2 * 2 + 1 = j := by omega
    rw [e] at g2
    have e2 : off + j / 2 * 2 + 1 = off + j := by omega
    rw [e2] at h2
    rw [g2] at hu
    cases hu
    exact h2
theorem own_terms {w : World} {base n cap m : Nat} {g : Nat} {ts rest : List Term} (h : w.ownsRow base 53 2 (.slice (some ⟨g, 0, none⟩) m cap) m (flatT (ts ++ rest))) (hn : ts.length = n) (hb : n ≤ 5864062014634) (hs : ∀ t ∈ ts, t.text.size ≤ maxLen) : TermsAt w (some ⟨g, 0, none⟩) n ts := by
  refine ⟨hb, hn, fun i t ht => ⟨g, 0, rfl, ?_, ?_, hs t (List.mem_of_getElem? ht)⟩⟩
  · obtain ⟨g1, _⟩ := flatT_get (ts ++ rest) i t (by rw [List.getElem?_append_left (List.getElem?_eq_some_iff.1 ht).1]; exact ht)
    have := h.cells (g := g) rfl _ _ g1
    rw [Addr.add_lit] at this
    exact this
  · obtain ⟨_, g2⟩ := flatT_get (ts ++ rest) i t (by rw [List.getElem?_append_left (List.getElem?_eq_some_iff.1 ht).1]; exact ht)
    have := h.cells (g := g) rfl _ _ g2
    rw [Addr.add_lit] at this
    rw [Nat.add_assoc]
    exact this
theorem TermsAt.texts {w : World} {a : Option Addr} {n : Nat} {ts : List Term} (h : TermsAt w a n ts) : ∀ t ∈ ts, t.text.size ≤ maxLen := by
  intro t ht
  obtain ⟨i, hi, rfl⟩ := List.getElem_of_mem ht
  obtain ⟨_, _, _, _, _, h3⟩ := h.2.2 i _ (List.getElem?_eq_getElem hi)
  exact h3
/-- The mark behind a list of terms. -/
def markT : Term := ⟨-77, ⟨#[]⟩⟩
/-- What ownAtom hands back: the terms in a row of the call's own, the mark behind them. -/
def OwnT (w : World) (base : Nat) (ts : List Term) (g cap : Nat) : Prop :=
  w.ownsRow base 53 2 (.slice (some ⟨g, 0, none⟩) (ts.length + 1) cap) (ts.length + 1) (flatT (ts ++ [markT])) ∧ ts.length + 1 ≤ cap
theorem info_term : (Tryz.prog.info? 53).map (fun i => (i.zero, i.size, i.bytes)) = some (some (.agg #[.int .i64 0, .string ⟨#[]⟩]), 2, 24) := by kernel_rfl
theorem set2_read {w : World} {b c : Nat} (hbc : b ≠ c) {u0 u1 : Value} (h0 : w.cell? ⟨c, 0, none⟩ = some u0) (h1 : w.cell? ⟨c, 1, none⟩ = some u1) (v p : Value) :
    ((w.setCell ⟨b, 1, none⟩ v).setCell ⟨c, 0, none⟩ p).cell? ⟨c, 0, none⟩ = some p ∧ ((w.setCell ⟨b, 1, none⟩ v).setCell ⟨c, 0, none⟩ p).cell? ⟨c, 1, none⟩ = some u1 := by
  have o0 : (w.setCell ⟨b, 1, none⟩ v).cell? ⟨c, 0, none⟩ = some u0 := by rw [World.cell?_setCell_other]; exact h0; simp
  have o1 : (w.setCell ⟨b, 1, none⟩ v).cell? ⟨c, 1, none⟩ = some u1 := by rw [World.cell?_setCell_other]; exact h1; exact fun e => hbc (congrArg Addr.block e)
  refine ⟨World.cell?_setCell_same _ _ _ o0, ?_⟩
  rw [World.cell?_setCell_other]; exact o1; simp
theorem mark_cell (w : World) : ∀ ad, some (⟨w.heap.size, 0, none⟩ : Addr) = some ad → ∀ j u, (flatT [markT])[j]? = some u → (w.alloc (.cells #[.int .i64 (-77), .string ⟨#[]⟩] 53)).cell? (ad.add j) = some u := by
  intro ad e j u hu
  cases e
  have hj := (List.getElem?_eq_some_iff.1 hu).1
  rw [flatT_len] at hj
  simp at hj
  rw [Addr.add_lit, World.cell?_alloc_new]
  match j, hj with
  | 0, _ => simpa [flatT, markT] using hu
  | 1, _ => simpa [flatT, markT] using hu
set_option maxRecDepth 20000 in
theorem c_ownAtom (a : Atom) (aa : Option Addr) (n cap : Nat) (w : World) (ha : TermsAt w aa n a.terms) (hc : capOk aa n cap) :
    Calls Tryz.prog 20 #[.agg #[.string a.pred, .slice aa n cap]] w fun e w' => ∃ g c, e = .returned (.agg #[.string a.pred, .slice (some ⟨g, 0, none⟩) n c]) ∧ OwnT w' w.heap.size a.terms g c ∧ Ext w w' := by
  have hn := ha.1
  have HA := Lib.hid ha
  have HL := Lib.hid ha.2.1
  have HC := Lib.hid hc
  clear ha hc
  obtain ⟨i0, hi, hz0, hz1, hz2⟩ := info_parts info_term
  have hd3 : 0 + n ≤ maxLen := by unfold maxLen; omega
  have hd4 : (0 + n) * 24 ≤ 140737488355328 := by omega
  have hfl : (flatT a.terms).length = n * 2 := by rw [flatT_len, HL.out]
  have HF := Lib.hid hfl
  have H3 := Lib.hid hd3
  have H4 := Lib.hid hd4
  have HN := Lib.hid hn
  clear hfl hd3 hd4 hn
  go_enter Tryz.func20, Tryz.ntmps20
  go_upto_region 1 with (fail)
  refine wp_gen (fun W hW => ?_)
  have hb0 : Ext w W := by rw [hW]; go_grown
  have x0 : W.cell? ⟨w.heap.size, 0, none⟩ = some (.string a.pred) := by rw [hW]; go_simp
  have x1 : W.cell? ⟨w.heap.size, 1, none⟩ = some (.slice aa n cap) := by rw [hW]; go_simp
  have xz : W.cell? ⟨w.heap.size + 1, 0, none⟩ = some (.string ⟨#[]⟩) := by rw [hW]; go_simp
  have xz1 : W.cell? ⟨w.heap.size + 1, 1, none⟩ = some (.slice none 0 0) := by rw [hW]; go_simp
  have hz : w.heap.size + 1 < W.heap.size := World.block_lt_of_cell? _ _ xz
  have hz' : w.heap.size < W.heap.size := by omega
  have f1 : W.frozen? ⟨w.heap.size, 1, none⟩ = false := by rw [hW]; go_simp
  have f2 : W.frozen? ⟨w.heap.size + 1, 0, none⟩ = false := by rw [hW]; go_simp
  have f3 : W.frozen? ⟨w.heap.size + 1, 1, none⟩ = false := by rw [hW]; go_simp
  clear hW
  have hown0 : (W.alloc (.cells #[] 53)).ownsRow W.heap.size 53 2 (.slice (some ⟨W.heap.size, 0, none⟩) 0 0) 0 [] := World.ownsRow_lit W #[] 0 (Nat.le_refl _) (by unfold maxLen; omega) rfl
  have hsrc : ∀ ad, aa = some ad → ∀ j u, (flatT a.terms)[j]? = some u → (W.alloc (.cells #[] 53)).cell? (ad.add j) = some u := fun ad e => flatT_cell (HA.out.keep (ext_alloc hb0 _)) e
  have HSRC := Lib.hid hsrc
  clear hsrc
  have hk1 : (0 + n) + 1 ≤ maxLen := by have := HN.out; unfold maxLen; omega
  have hk2 : ((0 + n) + 1) * 24 ≤ 140737488355328 := by have := HN.out; omega
  have K1 := Lib.hid hk1
  have K2 := Lib.hid hk2
  clear hk1 hk2
  go_wp2_with (first | (at_builtin; refine wpList_append_any rfl _ _ 22 rfl W.heap.size 53 i0 (.agg #[.int .i64 0, .string ⟨#[]⟩]) 2 24 Tryz.underlying22 hi hz0 hz1 hz2 rfl (by decide) _ _ _ rfl hown0 aa n cap (flatT a.terms) rfl HC.out.2 HF.out HSRC.out (flatT_one _) H3.out H4.out (size_alloc_le (Nat.le_refl _)) ?_; intro v1 w1 own1 g1) | (at_builtin; go_loud (refine wpList_append_any rfl _ _ 22 rfl W.heap.size 53 i0 (.agg #[.int .i64 0, .string ⟨#[]⟩]) 2 24 Tryz.underlying22 hi hz0 hz1 hz2 rfl (by decide) _ _ _ rfl (own1.alloc _) (some ⟨w1.heap.size, 0, none⟩) 1 1 (flatT [markT]) rfl (by intro h; cases h) rfl (mark_cell w1) (flatT_one _) K1.out K2.out (size_alloc_le (Nat.le_trans (size_alloc_le (Nat.le_refl _)) g1.size)) ?_); intro v2 w2 own2 g2; have hb2 : Ext W w2 := ext_ownB (ext_alloc (ext_ownB (ext_alloc (Below.refl _ W : Ext W W) _) g1 (by intro g e; cases e; exact Nat.le_refl _)) _) g2 (fun g e => (own1.lt g e).1); have y0 := keep hb2 x0; have y1 := keep hb2 x1; have yz := keep hb2 xz; have yz1 := keep hb2 xz1; have hz2' := Nat.lt_of_lt_of_le hz hb2.size; have hz2 := Nat.lt_of_lt_of_le hz' hb2.size; have k1 := (hb2.frozen (p := ⟨w.heap.size, 1, none⟩) hz').trans f1; have k2 := (hb2.frozen (p := ⟨w.heap.size + 1, 0, none⟩) hz).trans f2; have k3 := (hb2.frozen (p := ⟨w.heap.size + 1, 1, none⟩) hz).trans f3; obtain ⟨a2, c2, rfl, hc2⟩ := own_form own2))
  have O1 := ownsRow_setCell_below own2 (a := ⟨w.heap.size, 1, none⟩) hz' (.slice a2 n c2)
  have O2 := ownsRow_setCell_below O1 (a := ⟨w.heap.size + 1, 0, none⟩) hz (.string a.pred)
  have O3 := ownsRow_setCell_below O2 (a := ⟨w.heap.size + 1, 1, none⟩) hz (.slice a2 n c2)
  have E3 : Ext w (((w2.setCell ⟨w.heap.size, 1, none⟩ (.slice a2 n c2)).setCell ⟨w.heap.size + 1, 0, none⟩ (.string a.pred)).setCell ⟨w.heap.size + 1, 1, none⟩ (.slice a2 n c2)) :=
    ext_set (ext_set (ext_set (ext_trans hb0 hb2) (Nat.le_refl _) _) (Nat.le_succ _) _) (Nat.le_succ _) _
  obtain ⟨g, c3, e3, hg1⟩ := own_formS O3 (Nat.succ_pos _)
  cases e3
  obtain ⟨R0, R1⟩ := set2_read (b := w.heap.size) (c := w.heap.size + 1) (by omega) yz yz1 (.slice (some ⟨g, 0, none⟩) n c2) (.string a.pred)
  have S1 := World.cell?_setCell_same _ _ (.slice (some ⟨g, 0, none⟩) n c2) R1
  have S0 : (((w2.setCell ⟨w.heap.size, 1, none⟩ (.slice (some ⟨g, 0, none⟩) n c2)).setCell ⟨w.heap.size + 1, 0, none⟩ (.string a.pred)).setCell ⟨w.heap.size + 1, 1, none⟩ (.slice (some ⟨g, 0, none⟩) n c2)).cell? ⟨w.heap.size + 1, 0, none⟩ = some (.string a.pred) := by
    rw [World.cell?_setCell_other]; exact R0; simp
  clear R0 R1 O1 O2
  generalize (((w2.setCell ⟨w.heap.size, 1, none⟩ (.slice (some ⟨g, 0, none⟩) n c2)).setCell ⟨w.heap.size + 1, 0, none⟩ (.string a.pred)).setCell ⟨w.heap.size + 1, 1, none⟩ (.slice (some ⟨g, 0, none⟩) n c2)) = W4 at O3 E3 S0 S1 ⊢
  refine bodyPost_ret (by simp [results, Tryz.results20, go_sem, S0, S1]; try rfl) rfl ?_
  refine ⟨g, c2, rfl, ⟨own_base (base := W.heap.size) ?_ hb0.size, ?_⟩, E3⟩
  · rw [HL.out, flatT_append]; simpa using O3
  · rw [HL.out]; omega
end Go.Proofs.YtpgbenijjodoeaaGreat.K
namespace Go.Proofs.YtpgbenijjodoeaaGreat.K
open Go.ChangeShapes Go.WideShapes Go.ChangeAt Go.RowKit
def litCells (p : Lit × Nat × Nat) : List Value :=
  [.int .i64 p.1.kind, .string p.1.atom.pred, .slice (some ⟨p.2.1, 0, none⟩) p.1.atom.terms.length p.2.2, .int .i64 p.1.op, .int .i64 p.1.left.kind, .string p.1.left.text, .int .i64 p.1.right.kind, .string p.1.right.text]
def flatL (ps : List (Lit × Nat × Nat)) : List Value := ps.flatMap litCells
def markL : List Value := [.int .i64 (-77), .string ⟨#[]⟩, .slice none 0 0, .int .i64 0, .int .i64 0, .string ⟨#[]⟩, .int .i64 0, .string ⟨#[]⟩]
theorem flatL_len (ps : List (Lit × Nat × Nat)) : (flatL ps).length = ps.length * 8 := by
  induction ps with
  | nil => rfl
  | cons t ts ih => simp only [flatL, litCells, List.flatMap_cons, List.length_append, List.length_cons, List.length_nil] at ih ⊢; omega
theorem flatL_snoc (ps : List (Lit × Nat × Nat)) (p : Lit × Nat × Nat) : flatL (ps ++ [p]) = flatL ps ++ litCells p := by simp [flatL]
theorem flatL_get (ps : List (Lit × Nat × Nat)) (i j : Nat) (p : Lit × Nat × Nat) (h : ps[i]? = some p) (hj : j < 8) : (flatL ps)[i * 8 + j]? = (litCells p)[j]? := by
  induction ps generalizing i with
  | nil => simp at h
  | cons a ts ih =>
    have e : flatL (a :: ts) = litCells a ++ flatL ts := rfl
    cases i with
    | zero =>
      simp at h
      subst h
      rw [e, Nat.zero_mul, Nat.zero_add, List.getElem?_append_left (by simpa [litCells] using hj)]
    | succ i =>
      rw [e, show (i + 1) * 8 + j = (i * 8 + j) + 8 by omega, List.getElem?_append_right (by simp [litCells]), show (i * 8 + j) + 8 - (litCells a).length = i * 8 + j by simp [litCells]]
      exact ih i (by simpa using h)
theorem cells8_at {w : World} {g : Nat} (u0 u1 u2 u3 u4 u5 u6 u7 : Value) (t : TypeId) (hg : g = w.heap.size) : ∀ ad, some (⟨g, 0, none⟩ : Addr) = some ad → ∀ j u, [u0, u1, u2, u3, u4, u5, u6, u7][j]? = some u → (w.alloc (.cells #[u0, u1, u2, u3, u4, u5, u6, u7] t)).cell? (ad.add j) = some u := by
  intro ad e j u hu
  cases e
  subst hg
  rw [Addr.add_lit, World.cell?_alloc_new, Nat.zero_add]
  simpa using hu
/-- A row of literals of one's own, the mark behind it. -/
def OwnL (w : World) (base : Nat) (ps : List (Lit × Nat × Nat)) (g cap : Nat) : Prop :=
  w.ownsRow base 56 8 (.slice (some ⟨g, 0, none⟩) (ps.length + 1) cap) (ps.length + 1) (flatL ps ++ markL) ∧ ps.length + 1 ≤ cap
def OwnTs (w : World) (base : Nat) (ps : List (Lit × Nat × Nat)) : Prop := ∀ p ∈ ps, OwnT w base p.1.atom.terms p.2.1 p.2.2
structure OwnR (w : World) (base : Nat) (r : Rule) (gh ch gb cb : Nat) : Prop where
  head : OwnT w base r.head.terms gh ch
  body : ∃ ps, ps.map (·.1) = r.body ∧ OwnL w base ps gb cb ∧ OwnTs w base ps
theorem OwnT.mono {w : World} {base base' : Nat} {ts : List Term} {g c : Nat} (h : OwnT w base ts g c) (hb : base' ≤ base) : OwnT w base' ts g c := ⟨own_base h.1 hb, h.2⟩
theorem OwnT.ext {w w' : World} {base : Nat} {ts : List Term} {g c : Nat} (h : OwnT w base ts g c) (hb : Ext w w') : OwnT w' base ts g c :=
  ⟨h.1.kept (gb_of_ext hb none) (by simp [Value.ownBlock]), h.2⟩
theorem OwnT.gb {w w' : World} {base b2 s2 n2 : Nat} {v2 : Value} {x2 : List Value} {ts : List Term} {g c : Nat} (h : OwnT w base ts g c) (h2 : w.ownsRow b2 56 s2 v2 n2 x2) (k : w.grownBy w' v2.ownBlock) : OwnT w' base ts g c :=
  ⟨h.1.kept k (own_apart h.1 h2 (by decide)), h.2⟩
theorem OwnT.set {w : World} {base : Nat} {ts : List Term} {g c : Nat} (h : OwnT w base ts g c) {a : Addr} (ha : a.block < base) (u : Value) : OwnT (w.setCell a u) base ts g c := ⟨ownsRow_setCell_below h.1 ha u, h.2⟩
/-- Before round k: of the first k literals copies lie in the row v. -/
structure OwnIn (W : World) (ls : List Lit) (k : Nat) (v : Value) (w : World) : Prop where
  old : Ext W w
  row : ∃ ps, ps.map (·.1) = ls.take k ∧ w.ownsRow W.heap.size 56 8 v k (flatL ps) ∧ OwnTs w W.heap.size ps
theorem own_len {w : World} {base n size : Nat} {e : TypeId} {v : Value} {xs : List Value} (h : w.ownsRow base e size v n xs) : xs.length = n * size := h.1
theorem OwnTs.ext {w w' : World} {base : Nat} {ps : List (Lit × Nat × Nat)} (h : OwnTs w base ps) (hb : Ext w w') : OwnTs w' base ps := fun p hp => (h p hp).ext hb
theorem OwnTs.gb {w w' : World} {base b2 s2 n2 : Nat} {v2 : Value} {x2 : List Value} {ps : List (Lit × Nat × Nat)} (h : OwnTs w base ps) (h2 : w.ownsRow b2 56 s2 v2 n2 x2) (k : w.grownBy w' v2.ownBlock) : OwnTs w' base ps := fun p hp => (h p hp).gb h2 k
/-- What own hands back is a rule. -/
theorem OwnR.rule {w0 w : World} {base : Nat} {r : Rule} {gh ch gb cb : Nat} {ah : Option Addr} {nh c1 : Nat} {ab : Option Addr} {nb c2 : Nat} (h : OwnR w base r gh ch gb cb) (hr : RuleV w0 r ah nh c1 ab nb c2) :
    RuleV w r (some ⟨gh, 0, none⟩) nh ch (some ⟨gb, 0, none⟩) nb cb := by
  obtain ⟨ps, hps, hL, hT⟩ := h.body
  have hlen : ps.length = nb := by rw [← hr.body.2.1, ← hps, List.length_map]
  refine ⟨hr.pred, own_terms (rest := [markT]) h.head.1 hr.terms.2.1 hr.terms.1 hr.terms.texts, ⟨hr.body.1, hr.body.2.1, fun i l hl => ⟨gb, 0, rfl, ?_⟩⟩, ⟨by have := h.head.2; rw [hr.terms.2.1] at this; omega, by intro h; cases h⟩, ⟨by have := hL.2; omega, by intro h; cases h⟩⟩
  have hi : i < ps.length := by rw [hlen, ← hr.body.2.1]; exact (List.getElem?_eq_some_iff.1 hl).1
  obtain ⟨p, hp⟩ : ∃ p, ps[i]? = some p := ⟨_, List.getElem?_eq_getElem hi⟩
  have hpl : p.1 = l := by
    have e : (ps.map (·.1))[i]? = some p.1 := by rw [List.getElem?_map, hp]; rfl
    rw [hps, hl] at e
    exact (Option.some.inj e).symm
  obtain ⟨_, _, _, a, n, cap, _, _, _, _, _, _, _, _, ht, _, hp1, hp2, hp3⟩ := hr.body.2.2 i l hl
  have C : ∀ j, j < 8 → w.cell? ⟨gb, 0 + i * 8 + j, none⟩ = (litCells p)[j]? := by
    intro j hj
    have hjl : j < (litCells p).length := by simpa [litCells] using hj
    have e := flatL_get ps i j p hp hj
    rw [List.getElem?_eq_getElem hjl] at e ⊢
    have := hL.1.cells (g := gb) rfl (i * 8 + j) _ (by rw [List.getElem?_append_left (by rw [flatL_len]; omega)]; exact e)
    rw [Addr.add_lit] at this
    rw [Nat.zero_add] at this ⊢
    exact this
  have o := hT p (List.mem_of_getElem? hp)
  obtain ⟨lp, g, c⟩ := p
  cases hpl
  refine ⟨some ⟨g, 0, none⟩, lp.atom.terms.length, c, C 0 (by omega), C 1 (by omega), C 2 (by omega), C 3 (by omega), C 4 (by omega), C 5 (by omega), C 6 (by omega), C 7 (by omega), own_terms (rest := [markT]) o.1 rfl (by rw [ht.2.1]; exact ht.1) ht.texts, ⟨by have := o.2; dsimp only at this; omega, by intro h; cases h⟩, hp1, hp2, hp3⟩
theorem info_lit : (Tryz.prog.info? 56).map (fun i => (i.zero, i.size, i.bytes)) = some (some (.agg #[.int .i64 0, .string ⟨#[]⟩, .slice none 0 0, .int .i64 0, .int .i64 0, .string ⟨#[]⟩, .int .i64 0, .string ⟨#[]⟩]), 8, 104) := by kernel_rfl
/-- Two cells of a block written: what the third, and another block, hold. -/
theorem set01 {w : World} {b c : Nat} (hbc : b ≠ c) {u0 u1 u2 : Value} (h0 : w.cell? ⟨b, 0, none⟩ = some u0) (h1 : w.cell? ⟨b, 1, none⟩ = some u1) (h2 : w.cell? ⟨b, 2, none⟩ = some u2) (p q : Value) {W : World}
    (hW : (w.setCell ⟨b, 0, none⟩ p).setCell ⟨b, 1, none⟩ q = W) :
    W.cell? ⟨b, 0, none⟩ = some p ∧ W.cell? ⟨b, 1, none⟩ = some q ∧ W.cell? ⟨b, 2, none⟩ = some u2 ∧ (∀ i, W.cell? ⟨c, i, none⟩ = w.cell? ⟨c, i, none⟩) ∧ (∀ a, W.frozen? a = w.frozen? a) ∧ W.heap.size = w.heap.size := by
  subst hW
  have o1 : (w.setCell ⟨b, 0, none⟩ p).cell? ⟨b, 1, none⟩ = some u1 := by rw [World.cell?_setCell_other]; exact h1; simp
  refine ⟨?_, World.cell?_setCell_same _ _ _ o1, ?_, fun i => ?_, fun a => ?_, by simp⟩
  · rw [World.cell?_setCell_other]; exact World.cell?_setCell_same _ _ _ h0; simp
  · rw [World.cell?_setCell_other, World.cell?_setCell_other]; exact h2; simp; simp
  · rw [World.cell?_setCell_other, World.cell?_setCell_other]; exact fun e => hbc (congrArg Addr.block e); exact fun e => hbc (congrArg Addr.block e)
  · simp
theorem set12 {w : World} {b : Nat} {u1 u2 : Value} (h1 : w.cell? ⟨b, 1, none⟩ = some u1) (h2 : w.cell? ⟨b, 2, none⟩ = some u2) (p q : Value) {W : World}
    (hW : (w.setCell ⟨b, 1, none⟩ p).setCell ⟨b, 2, none⟩ q = W) :
    W.cell? ⟨b, 1, none⟩ = some p ∧ W.cell? ⟨b, 2, none⟩ = some q ∧ (∀ i, i ≠ 1 → i ≠ 2 → W.cell? ⟨b, i, none⟩ = w.cell? ⟨b, i, none⟩) ∧ W.heap.size = w.heap.size := by
  subst hW
  have o1 : (w.setCell ⟨b, 1, none⟩ p).cell? ⟨b, 2, none⟩ = some u2 := by rw [World.cell?_setCell_other]; exact h2; simp
  refine ⟨?_, World.cell?_setCell_same _ _ _ o1, fun i i1 i2 => ?_, by simp⟩
  · rw [World.cell?_setCell_other]; exact World.cell?_setCell_same _ _ _ h1; simp
  · rw [World.cell?_setCell_other, World.cell?_setCell_other]
    · intro e; cases e; exact i1 rfl
    · intro e; cases e; exact i2 rfl
theorem set4 {w : World} {b c : Nat} (hbc : b ≠ c) {u0 u1 u2 : Value} (h0 : w.cell? ⟨c, 0, none⟩ = some u0) (h1 : w.cell? ⟨c, 1, none⟩ = some u1) (h2 : w.cell? ⟨c, 2, none⟩ = some u2) (q p0 p1 p2 : Value) {W : World}
    (hW : (((w.setCell ⟨b, 2, none⟩ q).setCell ⟨c, 0, none⟩ p0).setCell ⟨c, 1, none⟩ p1).setCell ⟨c, 2, none⟩ p2 = W) :
    W.cell? ⟨c, 0, none⟩ = some p0 ∧ W.cell? ⟨c, 1, none⟩ = some p1 ∧ W.cell? ⟨c, 2, none⟩ = some p2 := by
  have oz : ∀ i, (w.setCell ⟨b, 2, none⟩ q).cell? ⟨c, i, none⟩ = w.cell? ⟨c, i, none⟩ := fun i => by rw [World.cell?_setCell_other]; exact fun e => hbc (congrArg Addr.block e)
  obtain ⟨a0, a1, a2, _⟩ := set01 (c := c + 1) (by omega) ((oz 0).trans h0) ((oz 1).trans h1) ((oz 2).trans h2) p0 p1 rfl
  subst hW
  refine ⟨?_, ?_, World.cell?_setCell_same _ _ _ a2⟩
  · rw [World.cell?_setCell_other]; exact a0; simp
  · rw [World.cell?_setCell_other]; exact a1; simp
set_option maxRecDepth 20000 in
theorem c_own (r : Rule) (ah : Option Addr) (nh ch : Nat) (ab : Option Addr) (nb cb : Nat) (w : World) (hr : RuleV w r ah nh ch ab nb cb) :
    Calls Tryz.prog 6 #[.agg #[.string r.head.pred, .slice ah nh ch, .slice ab nb cb]] w fun e w' => ∃ gh ch' gb cb', e = .returned (.agg #[.string r.head.pred, .slice (some ⟨gh, 0, none⟩) nh ch', .slice (some ⟨gb, 0, none⟩) nb cb']) ∧ OwnR w' w.heap.size r gh ch' gb cb' ∧ Ext w w' := by
  have HR := Lib.hid hr
  have HN := Lib.hid hr.body.1
  have HL := Lib.hid hr.body.2.1
  clear hr
  obtain ⟨i0, hi, hz0, hz1, hz2⟩ := info_parts info_lit
  go_enter Tryz.func6, Tryz.ntmps6
  go_upto_region 1 with (fail)
  refine wp_gen (fun W hW => ?_)
  have hb0 : Ext w W := by rw [hW]; go_grown
  have x0 : W.cell? ⟨w.heap.size, 0, none⟩ = some (.string r.head.pred) := by rw [hW]; go_simp
  have x1 : W.cell? ⟨w.heap.size, 1, none⟩ = some (.slice ah nh ch) := by rw [hW]; go_simp
  have x2 : W.cell? ⟨w.heap.size, 2, none⟩ = some (.slice ab nb cb) := by rw [hW]; go_simp
  have z0 : W.cell? ⟨w.heap.size + 1, 0, none⟩ = some (.string ⟨#[]⟩) := by rw [hW]; go_simp
  have z1 : W.cell? ⟨w.heap.size + 1, 1, none⟩ = some (.slice none 0 0) := by rw [hW]; go_simp
  have z2 : W.cell? ⟨w.heap.size + 1, 2, none⟩ = some (.slice none 0 0) := by rw [hW]; go_simp
  have f0 : W.frozen? ⟨w.heap.size, 0, none⟩ = false := by rw [hW]; go_simp
  have f1 : W.frozen? ⟨w.heap.size, 1, none⟩ = false := by rw [hW]; go_simp
  have f2 : W.frozen? ⟨w.heap.size, 2, none⟩ = false := by rw [hW]; go_simp
  have q0 : W.frozen? ⟨w.heap.size + 1, 0, none⟩ = false := by rw [hW]; go_simp
  have q1 : W.frozen? ⟨w.heap.size + 1, 1, none⟩ = false := by rw [hW]; go_simp
  have q2 : W.frozen? ⟨w.heap.size + 1, 2, none⟩ = false := by rw [hW]; go_simp
  have hz : w.heap.size + 1 < W.heap.size := World.block_lt_of_cell? _ _ z0
  have hz' : w.heap.size < W.heap.size := by omega
  clear hW
  go_upto_region 2 with (go_at_call 20; (with_reducible refine (c_ownAtom r.head ah nh ch _ (HR.out.terms.keep hb0) HR.out.hcap).mono ?_); rintro e w1 ⟨gh, ch', rfl, hown1, hb1⟩; have a0 := keep hb1 x0; have a1 := keep hb1 x1; have a2 := keep hb1 x2; have k0 := (hb1.frozen (p := ⟨w.heap.size, 0, none⟩) hz').trans f0; have k1 := (hb1.frozen (p := ⟨w.heap.size, 1, none⟩) hz').trans f1)
  refine wp_gen (fun W1 hW1 => ?_)
  obtain ⟨c0, c1, c2, cz, fz, sz⟩ := set01 (c := w.heap.size + 1) (by omega) a0 a1 a2 _ _ hW1.symm
  have hb2 : Ext w W1 := by rw [hW1]; exact ext_set (ext_set (ext_trans hb0 hb1) (Nat.le_refl _) _) (Nat.le_refl _) _
  have hown2 : OwnT W1 W.heap.size r.head.terms gh ch' := by rw [hW1]; exact (hown1.set (a := ⟨w.heap.size, 0, none⟩) hz' _).set (a := ⟨w.heap.size, 1, none⟩) hz' _
  have y0 := (cz 0).trans (keep hb1 z0)
  have y1 := (cz 1).trans (keep hb1 z1)
  have y2 := (cz 2).trans (keep hb1 z2)
  have g2 := (fz ⟨w.heap.size, 2, none⟩).trans ((hb1.frozen (p := ⟨w.heap.size, 2, none⟩) hz').trans f2)
  have p0 := (fz ⟨w.heap.size + 1, 0, none⟩).trans ((hb1.frozen (p := ⟨w.heap.size + 1, 0, none⟩) hz).trans q0)
  have p1 := (fz ⟨w.heap.size + 1, 1, none⟩).trans ((hb1.frozen (p := ⟨w.heap.size + 1, 1, none⟩) hz).trans q1)
  have p2 := (fz ⟨w.heap.size + 1, 2, none⟩).trans ((hb1.frozen (p := ⟨w.heap.size + 1, 2, none⟩) hz).trans q2)
  have hzW : w.heap.size + 1 < W1.heap.size := by rw [sz]; exact Nat.lt_of_lt_of_le hz hb1.size
  have hWW : W.heap.size ≤ W1.heap.size := by rw [sz]; exact hb1.size
  clear hW1 hown1 a0 a1 a2 k0 k1 cz fz sz z0 z1 z2 f0 f1 f2 q0 q1 q2 x0 x1 x2
  have hbb := ext_trans hb0 hb1
  clear hb1
  go_wp2
  go_loopw [3, 4] (fun v i wj => ∃ k, k ≤ nb ∧ i = .int .i64 (k : Int) ∧ OwnIn W1 r.body k v wj) (fun _ i _ => nb - (intOf i).toNat)
  case atStart => exact ⟨0, by omega, rfl, ⟨Below.refl _ _, [], rfl, World.ownsRow_nil _ _ _ _, fun _ h => by cases h⟩⟩
  case round =>
    obtain ⟨k, hk, rfl, hs⟩ := hrel
    have y2b := keep hs.old c2
    have HS := Lib.hid hs
    clear hs
    by_cases hlt : k < nb
    · obtain ⟨l, bt, off, hx, rfl, a, n, cap, h0, h1, h2, h3, h4, h5, h6, h7, ht, hcap, hp, hl, hr⟩ := (HR.out.body).2.at hlt
      obtain rfl : n = l.atom.terms.length := ht.2.1.symm
      have HX := Lib.hid hx
      have HC := Lib.hid hcap
      have hwr := ext_trans hb2 HS.out.old
      have g0 := keep hwr h0
      have g1 := keep hwr h1
      have g2 := keep hwr h2
      have g3 := keep hwr h3
      have g4 := keep hwr h4
      have g5 := keep hwr h5
      have g6 := keep hwr h6
      have g7 := keep hwr h7
      have HT := Lib.hid ht
      clear hx h0 h1 h2 h3 h4 h5 h6 h7 ht hcap
      go_upto_region 7 with (fail)
      refine wp_gen (fun Wi hWi => ?_)
      have hin : Ext wr Wi := by rw [hWi]; exact ext_alloc (Below.refl _ _) _
      have e0 : Wi.cell? ⟨wr.heap.size, 0, none⟩ = some (.int .i64 l.kind) := by rw [hWi]; go_simp
      have e1 : Wi.cell? ⟨wr.heap.size, 1, none⟩ = some (.string l.atom.pred) := by rw [hWi]; go_simp
      have e2 : Wi.cell? ⟨wr.heap.size, 2, none⟩ = some (.slice a l.atom.terms.length cap) := by rw [hWi]; go_simp
      have e3 : Wi.cell? ⟨wr.heap.size, 3, none⟩ = some (.int .i64 l.op) := by rw [hWi]; go_simp
      have e4 : Wi.cell? ⟨wr.heap.size, 4, none⟩ = some (.int .i64 l.left.kind) := by rw [hWi]; go_simp
      have e5 : Wi.cell? ⟨wr.heap.size, 5, none⟩ = some (.string l.left.text) := by rw [hWi]; go_simp
      have e6 : Wi.cell? ⟨wr.heap.size, 6, none⟩ = some (.int .i64 l.right.kind) := by rw [hWi]; go_simp
      have e7 : Wi.cell? ⟨wr.heap.size, 7, none⟩ = some (.string l.right.text) := by rw [hWi]; go_simp
      have v1 : Wi.frozen? ⟨wr.heap.size, 1, none⟩ = false := by rw [hWi]; go_simp
      have v2 : Wi.frozen? ⟨wr.heap.size, 2, none⟩ = false := by rw [hWi]; go_simp
      have hsi : wr.heap.size < Wi.heap.size := World.block_lt_of_cell? _ _ e0
      clear hWi g0 g1 g2 g3 g4 g5 g6 g7
      go_upto_region 8 with (go_at_call 20; (with_reducible refine (c_ownAtom l.atom _ _ _ _ (HT.out.keep (ext_trans hwr hin)) HC.out).mono ?_); rintro e w3 ⟨gx, cx, rfl, hown3, hb3⟩; have m1 := keep hb3 e1; have m2 := keep hb3 e2; have v1 := (hb3.frozen (p := ⟨wr.heap.size, 1, none⟩) hsi).trans v1; have v2 := (hb3.frozen (p := ⟨wr.heap.size, 2, none⟩) hsi).trans v2)
      refine wp_gen (fun W3 hW3 => ?_)
      obtain ⟨d1, d2, dz, sz⟩ := set12 m1 m2 _ _ hW3.symm
      have hw3 : Ext wr W3 := by rw [hW3]; exact ext_set (ext_set (ext_trans hin hb3) (Nat.le_refl _) _) (Nat.le_refl _) _
      have hown4 : OwnT W3 Wi.heap.size l.atom.terms gx cx := by rw [hW3]; exact (hown3.set (a := ⟨wr.heap.size, 1, none⟩) hsi _).set (a := ⟨wr.heap.size, 2, none⟩) hsi _
      have d0 := (dz 0 (by decide) (by decide)).trans (keep hb3 e0)
      have d3 := (dz 3 (by decide) (by decide)).trans (keep hb3 e3)
      have d4 := (dz 4 (by decide) (by decide)).trans (keep hb3 e4)
      have d5 := (dz 5 (by decide) (by decide)).trans (keep hb3 e5)
      have d6 := (dz 6 (by decide) (by decide)).trans (keep hb3 e6)
      have d7 := (dz 7 (by decide) (by decide)).trans (keep hb3 e7)
      clear hW3 dz sz hown3 e0 e3 e4 e5 e6 e7
      obtain ⟨hold, ps, hps, hrow, hts⟩ := HS.out
      have hrow3 := hrow.kept (gb_of_ext hw3 none) (by cases u3.ownBlock <;> simp)
      have hts3 := hts.ext hw3
      have hk1 : k + 1 ≤ maxLen := by have := HN.out; unfold maxLen; omega
      have hk2 : (k + 1) * 104 ≤ 140737488355328 := by have := HN.out; omega
      have K1 := Lib.hid hk1
      have K2 := Lib.hid hk2
      clear hk1 hk2
      have hnn := HN.out
      have hsz3 : W1.heap.size ≤ W3.heap.size := (ext_trans hold hw3).size
      go_wp2_with (at_builtin; go_loud (refine wpList_append_any rfl _ _ 25 rfl W1.heap.size 56 i0 (.agg #[.int .i64 0, .string ⟨#[]⟩, .slice none 0 0, .int .i64 0, .int .i64 0, .string ⟨#[]⟩, .int .i64 0, .string ⟨#[]⟩]) 8 104 Tryz.underlying25 hi hz0 hz1 hz2 rfl (by decide) _ _ _ rfl (hrow3.alloc _) (some ⟨W3.heap.size, 0, none⟩) 1 1 (litCells (l, gx, cx)) rfl (by intro h; cases h) rfl (cells8_at _ _ _ _ _ _ _ _ _ rfl) (by intro u hu; simp [litCells] at hu; rcases hu with rfl | rfl | rfl | rfl | rfl | rfl | rfl | rfl <;> rfl) K1.out K2.out (size_alloc_le hsz3) ?_); intro v4 w4 own4 g4)
      go_roundw
      case rel =>
        refine ⟨k + 1, by omega, by go_num, ext_ownB (ext_alloc (ext_trans hold hw3) _) g4 (fun g e => (hrow3.lt g e).1), ps ++ [(l, gx, cx)], ?_, ?_, ?_⟩
        · rw [take_at HX.out, List.map_append, hps]; rfl
        · rw [flatL_snoc]; exact own4
        · intro p hp
          rcases List.mem_append.1 hp with hp | hp
          · exact ((hts3 p hp).ext (ext_alloc (Below.refl _ _) _)).gb (hrow3.alloc _) g4
          · cases List.mem_singleton.1 hp
            exact ((hown4.mono (Nat.le_trans hold.size hin.size)).ext (ext_alloc (Below.refl _ _) _)).gb (hrow3.alloc _) g4
      case measure => simp [intOf]; omega
    · obtain ⟨hold, ps, hps, hrow, hts⟩ := HS.out
      obtain rfl : k = nb := by omega
      have hfull : r.body.take k = r.body := List.take_of_length_le (by have := HL.out; omega)
      have hk1 : k + 1 ≤ maxLen := by have := HN.out; unfold maxLen; omega
      have hk2 : (k + 1) * 104 ≤ 140737488355328 := by have := HN.out; omega
      have K1 := Lib.hid hk1
      have K2 := Lib.hid hk2
      clear hk1 hk2
      go_wp2_with (at_builtin; go_loud (refine wpList_append_any rfl _ _ 25 rfl W1.heap.size 56 i0 (.agg #[.int .i64 0, .string ⟨#[]⟩, .slice none 0 0, .int .i64 0, .int .i64 0, .string ⟨#[]⟩, .int .i64 0, .string ⟨#[]⟩]) 8 104 Tryz.underlying25 hi hz0 hz1 hz2 rfl (by decide) _ _ _ rfl (hrow.alloc _) (some ⟨wr.heap.size, 0, none⟩) 1 1 markL rfl (by intro h; cases h) rfl (cells8_at _ _ _ _ _ _ _ _ _ rfl) (by intro u hu; simp [markL] at hu; rcases hu with rfl | rfl | rfl | rfl | rfl | rfl | rfl | rfl <;> rfl) K1.out K2.out (size_alloc_le hold.size) ?_; intro v5 w5 own5 g5; have hb5 : Ext W1 w5 := ext_ownB (ext_alloc hold _) g5 (fun g e => (hrow.lt g e).1); have b0 := keep hb5 c0; have b1 := keep hb5 c1; have b2 := keep hb5 c2; have t0 := keep hb5 y0; have t1 := keep hb5 y1; have t2 := keep hb5 y2; have hzv : w.heap.size < W1.heap.size := Nat.lt_of_succ_lt hzW; have n2 := (hb5.frozen (p := ⟨w.heap.size, 2, none⟩) hzv).trans g2; have n3 := (hb5.frozen (p := ⟨w.heap.size + 1, 0, none⟩) hzW).trans p0; have n4 := (hb5.frozen (p := ⟨w.heap.size + 1, 1, none⟩) hzW).trans p1; have n5 := (hb5.frozen (p := ⟨w.heap.size + 1, 2, none⟩) hzW).trans p2; obtain ⟨a5, c5, rfl, hc5⟩ := own_form own5))
      obtain ⟨gb, c6, e6, hc6⟩ := own_formS own5 (Nat.succ_pos _)
      cases e6
      have O1 := ownsRow_setCell_below own5 (a := ⟨w.heap.size, 2, none⟩) (Nat.lt_of_succ_lt hzW) (.slice (some ⟨gb, 0, none⟩) k c5)
      have O2 := ownsRow_setCell_below O1 (a := ⟨w.heap.size + 1, 0, none⟩) hzW (.string r.head.pred)
      have O3 := ownsRow_setCell_below O2 (a := ⟨w.heap.size + 1, 1, none⟩) hzW (.slice (some ⟨gh, 0, none⟩) nh ch')
      have O4 := ownsRow_setCell_below O3 (a := ⟨w.heap.size + 1, 2, none⟩) hzW (.slice (some ⟨gb, 0, none⟩) k c5)
      have hts5 : OwnTs w5 W1.heap.size ps := fun p hp => ((hts p hp).ext (ext_alloc (Below.refl _ _) _)).gb (hrow.alloc _) g5
      have hts6 : OwnTs ((((w5.setCell ⟨w.heap.size, 2, none⟩ (.slice (some ⟨gb, 0, none⟩) k c5)).setCell ⟨w.heap.size + 1, 0, none⟩ (.string r.head.pred)).setCell ⟨w.heap.size + 1, 1, none⟩ (.slice (some ⟨gh, 0, none⟩) nh ch')).setCell ⟨w.heap.size + 1, 2, none⟩ (.slice (some ⟨gb, 0, none⟩) k c5)) W1.heap.size ps := fun p hp =>
        ((((hts5 p hp).set (a := ⟨w.heap.size, 2, none⟩) (Nat.lt_of_succ_lt hzW) _).set (a := ⟨w.heap.size + 1, 0, none⟩) hzW _).set (a := ⟨w.heap.size + 1, 1, none⟩) hzW _).set (a := ⟨w.heap.size + 1, 2, none⟩) hzW _
      have hh6 : OwnT ((((w5.setCell ⟨w.heap.size, 2, none⟩ (.slice (some ⟨gb, 0, none⟩) k c5)).setCell ⟨w.heap.size + 1, 0, none⟩ (.string r.head.pred)).setCell ⟨w.heap.size + 1, 1, none⟩ (.slice (some ⟨gh, 0, none⟩) nh ch')).setCell ⟨w.heap.size + 1, 2, none⟩ (.slice (some ⟨gb, 0, none⟩) k c5)) W.heap.size r.head.terms gh ch' :=
        (((((hown2.ext hb5).set (a := ⟨w.heap.size, 2, none⟩) hz' _).set (a := ⟨w.heap.size + 1, 0, none⟩) hz _).set (a := ⟨w.heap.size + 1, 1, none⟩) hz _).set (a := ⟨w.heap.size + 1, 2, none⟩) hz _)
      have E6 : Ext w ((((w5.setCell ⟨w.heap.size, 2, none⟩ (.slice (some ⟨gb, 0, none⟩) k c5)).setCell ⟨w.heap.size + 1, 0, none⟩ (.string r.head.pred)).setCell ⟨w.heap.size + 1, 1, none⟩ (.slice (some ⟨gh, 0, none⟩) nh ch')).setCell ⟨w.heap.size + 1, 2, none⟩ (.slice (some ⟨gb, 0, none⟩) k c5)) :=
        ext_set (ext_set (ext_set (ext_set (ext_trans hb2 hb5) (Nat.le_refl _) _) (Nat.le_succ _) _) (Nat.le_succ _) _) (Nat.le_succ _) _
      obtain ⟨S0, S1, S2⟩ := set4 (b := w.heap.size) (c := w.heap.size + 1) (by omega) t0 t1 t2 (.slice (some ⟨gb, 0, none⟩) k c5) (.string r.head.pred) (.slice (some ⟨gh, 0, none⟩) nh ch') (.slice (some ⟨gb, 0, none⟩) k c5) rfl
      clear O1 O2 O3 hts5 b0 b1 b2 t0 t1 t2 n2 n3 n4 n5
      generalize ((((w5.setCell ⟨w.heap.size, 2, none⟩ (.slice (some ⟨gb, 0, none⟩) k c5)).setCell ⟨w.heap.size + 1, 0, none⟩ (.string r.head.pred)).setCell ⟨w.heap.size + 1, 1, none⟩ (.slice (some ⟨gh, 0, none⟩) nh ch')).setCell ⟨w.heap.size + 1, 2, none⟩ (.slice (some ⟨gb, 0, none⟩) k c5)) = W6 at O4 E6 hts6 hh6 S0 S1 S2 ⊢
      refine bodyPost_ret (by simp [results, Tryz.results6, go_sem, S0, S1, S2]; try rfl) rfl ?_
      have hlp : ps.length = k := by rw [← HL.out, ← hfull, ← hps, List.length_map]
      exact ⟨gh, ch', gb, c5, rfl, ⟨hh6.mono hb0.size, ps, by rw [hps, hfull], ⟨by rw [hlp]; exact own_base O4 hb2.size, by rw [hlp]; exact hc6⟩, fun p hp => (hts6 p hp).mono hb2.size⟩, E6⟩
end Go.Proofs.YtpgbenijjodoeaaGreat.K
