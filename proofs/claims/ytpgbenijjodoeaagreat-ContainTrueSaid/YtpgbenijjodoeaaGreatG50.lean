/- The walk of the law's frozen: a rule's body as rows of a base, and its head's row. Plain law: what the law's frozen makes of a plain rule is its body and head, frozen. The walks of the law's clean. What the law ContainTrue asks of the functions that it calls. -/
import Derived.Test.YtpgbenijjodoeaaGreatG5
import Derived.Test.YtpgbenijjodoeaaGreatG44
import Derived.Test.YtpgbenijjodoeaaGreatG47
import Derived.Test.YtpgbenijjodoeaaGreatG48
import Derived.Test.YtpgbenijjodoeaaGreatG49
import Derived.Laws.DeepStrings4
namespace Go.Proofs.YtpgbenijjodoeaaGreat
open Go.ChangeShapes Go.WideShapes Go.ChangeAt Go.RowKit
open K (Term Atom Rule TermsAt LitsAt RuleV termAt litAt)
theorem BaseV.butF {w w' : World} {S : Nat → Prop} {lo bb : Nat} {f : RelM} (h : BaseV w lo bb f) (e : ButS S w w') (hs : ∀ b, S b → ¬ BaseBl w bb f b) (ht : ∀ b, S b → ¬ Ty w b 9) : BaseV w' lo bb f ∧ ∀ b, BaseBl w' bb f b → BaseBl w bb f b := by
  have hbb : ¬ S bb := fun q => hs _ q (.inl rfl)
  have hx : ∀ k x, f k = some x → ¬ S x.1 := fun k x hk q => hs _ q (.inr (.inr ⟨k, x, hk, .inl rfl⟩))
  have hg : ∀ k x, f k = some x → ∀ g, itemB w x.1 = some g → ¬ S g := fun k x hk g hg q => hs _ q (.inr (.inr ⟨k, x, hk, .inr hg⟩))
  have hi : ∀ k x, f k = some x → RowsV w' (x.1 + 1) x.1 x.2.1 x.2.2 ∧ itemB w' x.1 = itemB w x.1 := fun k x hk => (h.r.rel k x hk).2.1.but e (hx k x hk) (hg k x hk) ht
  obtain ⟨mb, m1, m2, m3⟩ := h.m
  have hmb : ¬ S mb := fun q => hs _ q (.inr (.inl m2))
  obtain ⟨n, hn⟩ := h.r.n
  have c0 := e.cell hbb m2
  refine ⟨⟨⟨h.r.low, h.r.ty.but e hbb, ⟨n, e.cell hbb hn⟩, frozen_but e hbb h.r.ty.lt h.r.free, fun k x hk => ?_, fun k k' x x' h1 h2 hne => ?_⟩, mb, m1, c0, smap_but m3 e hmb⟩, fun b hb => ?_⟩
  · obtain ⟨q1, _, q3, q4⟩ := h.r.rel k x hk
    exact ⟨q1, (hi k x hk).1, q3.but e (hx k x hk), q4⟩
  · rw [(hi k x h1).2, (hi k' x' h2).2]
    exact h.r.apart k k' x x' h1 h2 hne
  · rcases hb with hb | hb | ⟨k, x, hk, hb⟩
    · exact .inl hb
    · rw [c0] at hb
      refine .inr (.inl ?_)
      rw [m2]
      exact hb
    · refine .inr (.inr ⟨k, x, hk, hb.imp id fun q => ?_⟩)
      rwa [(hi k x hk).2] at q
abbrev FzS := (ByteArray → Option ByteArray) × Nat × List ByteArray
abbrev FzL := (ByteArray → Option ByteArray) × Nat × List (List ByteArray)
def frStep (s : FzS) (t : Term) : FzS := ((frT s.1 s.2.1 t).1, (frT s.1 s.2.1 t).2.1, s.2.2 ++ [(frT s.1 s.2.1 t).2.2])
def frRow (m : ByteArray → Option ByteArray) (n : Nat) (ts : List Term) : FzS := ts.foldl frStep (m, n, [])
def frLit (s : FzL) (l : K.Lit) : FzL := ((frRow s.1 s.2.1 l.atom.terms).1, (frRow s.1 s.2.1 l.atom.terms).2.1, s.2.2 ++ [(frRow s.1 s.2.1 l.atom.terms).2.2])
def frBody (ls : List K.Lit) : FzL := ls.foldl frLit ((fun _ => none), 0, [])
theorem frT_le (m : ByteArray → Option ByteArray) (n : Nat) (t : Term) : n ≤ (frT m n t).2.1 ∧ (frT m n t).2.1 ≤ n + 1 := by
  unfold frT
  split
  · simp
  · split
    · split <;> simp
    · simp
theorem frRow_le (ts : List Term) : ∀ (s : FzS), s.2.1 ≤ (ts.foldl frStep s).2.1 ∧ (ts.foldl frStep s).2.1 ≤ s.2.1 + ts.length ∧ (ts.foldl frStep s).2.2.length = s.2.2.length + ts.length := by
  induction ts with
  | nil => intro s; simp
  | cons t ts ih =>
    intro s
    obtain ⟨h1, h2, h3⟩ := ih (frStep s t)
    have h4 := frT_le s.1 s.2.1 t
    rw [List.foldl_cons, List.length_cons]
    have e1 : (frStep s t).2.1 = (frT s.1 s.2.1 t).2.1 := rfl
    have e2 : (frStep s t).2.2.length = s.2.2.length + 1 := by simp [frStep]
    omega
/-- A base that holds these literals' rows, and no others. -/
def BodyL (ls : List K.Lit) (rows : List (List ByteArray)) (f : RelM) : Prop := ∀ p y, y ∈ rowsOf f p ↔ ∃ (k : Nat) (l : K.Lit), ls[k]? = some l ∧ l.atom.pred = p ∧ rows[k]? = some y
where rowsOf (f : RelM) (p : ByteArray) : List (List ByteArray) := rsOf f p
theorem BodyL.snoc {ls : List K.Lit} {rows : List (List ByteArray)} {f : RelM} (h : BodyL ls rows f) (hl : rows.length = ls.length) (l : K.Lit) (y : List ByteArray) (pb ar : Nat) (hr : Rising (rsOf f l.atom.pred)) : BodyL (ls ++ [l]) (rows ++ [y]) (updF f l.atom.pred (pb, ar, putRow (rsOf f l.atom.pred) y)) := by
  intro p z
  have hu : BodyL.rowsOf (updF f l.atom.pred (pb, ar, putRow (rsOf f l.atom.pred) y)) p = if p = l.atom.pred then putRow (rsOf f l.atom.pred) y else rsOf f p := by
    unfold BodyL.rowsOf
    by_cases hp : p = l.atom.pred
    · rw [if_pos hp]
      show (match updF f l.atom.pred (pb, ar, putRow (rsOf f l.atom.pred) y) p with | some x => x.2.2 | none => []) = _
      unfold updF
      rw [if_pos hp]
    · rw [if_neg hp]
      show (match updF f l.atom.pred (pb, ar, putRow (rsOf f l.atom.pred) y) p with | some x => x.2.2 | none => []) = (match f p with | some x => x.2.2 | none => [])
      unfold updF
      rw [if_neg hp]
  have hz := h p z
  unfold BodyL.rowsOf at hz
  rw [hu]
  have key : (∃ (k : Nat) (l' : K.Lit), (ls ++ [l])[k]? = some l' ∧ l'.atom.pred = p ∧ (rows ++ [y])[k]? = some z) ↔ (l.atom.pred = p ∧ z = y) ∨ ∃ (k : Nat) (l' : K.Lit), ls[k]? = some l' ∧ l'.atom.pred = p ∧ rows[k]? = some z := by
    constructor
    · rintro ⟨k, l', h1, h2, h3⟩
      by_cases hk : k < ls.length
      · rw [List.getElem?_append_left hk] at h1
        rw [List.getElem?_append_left (by omega)] at h3
        exact .inr ⟨k, l', h1, h2, h3⟩
      · rw [List.getElem?_append_right (by omega)] at h1
        rw [List.getElem?_append_right (by omega)] at h3
        have hk0 : k - ls.length = 0 := by
          have := (List.getElem?_eq_some_iff.1 h1).1
          simp at this
          omega
        have hk1 : k - rows.length = 0 := by omega
        rw [hk0] at h1
        rw [hk1] at h3
        simp at h1 h3
        subst h1
        exact .inl ⟨h2, h3.symm⟩
    · rintro (⟨h1, rfl⟩ | ⟨k, l', h1, h2, h3⟩)
      · exact ⟨ls.length, l, by simp, h1, by rw [← hl]; simp⟩
      · have h1' := (List.getElem?_eq_some_iff.1 h1).1
        exact ⟨k, l', by rw [List.getElem?_append_left h1']; exact h1, h2, by rw [List.getElem?_append_left (by omega)]; exact h3⟩
  rw [key, ← hz]
  by_cases hp : p = l.atom.pred
  · rw [if_pos hp, putRow_mem hr, hp]
    simp
  · rw [if_neg hp]
    exact ⟨.inr, fun q => q.elim (fun q => absurd q.1.symm hp) id⟩
def FrozPost (r : Rule) (nh : Nat) (w : World) (e : Ending) (w' : World) : Prop := Ext w w' ∧ (e = .returned (.tuple #[.pointer none, .slice none 0 0, .bool false]) ∨ ∃ lo bb f a c, e = .returned (.tuple #[.pointer (some ⟨bb, 0, none⟩), .slice a nh c, .bool true]) ∧ BaseV w' lo bb f ∧ w.heap.size ≤ lo ∧ BodyL r.body (frBody r.body).2.2 f ∧ StrsAt w' a nh (frRow (frBody r.body).1 (frBody r.body).2.1 r.head.terms).2.2 ∧ (a = none → nh = 0 ∧ c = 0))
/-- What the loop over the literals keeps. -/
structure FrO (W : World) (p6 p7 mb bb lo : Nat) (ls : List K.Lit) (k : Nat) (wj : World) : Prop where
  ext : Ext W wj
  cnt : (frBody (ls.take k)).2.1 ≤ 64 * k
  len : (frBody (ls.take k)).2.2.length = k
  fz : FzSt wj p6 p7 mb (frBody (ls.take k)).1 (frBody (ls.take k)).2.1
  base : ∃ f, BaseV wj lo bb f ∧ (∀ b, BaseBl wj bb f b → b ≠ p6 ∧ b ≠ p7 ∧ b ≠ mb) ∧ BodyL (ls.take k) (frBody (ls.take k)).2.2 f
/-- What the loop over the terms keeps. -/
structure FrI (W : World) (p6 p7 mb : Nat) (m : ByteArray → Option ByteArray) (n : Nat) (ts : List Term) (j : Nat) (v : Value) (wj : World) : Prop where
  but : ButS (FzB p7 mb) W wj
  fz : FzSt wj p6 p7 mb (frRow m n (ts.take j)).1 (frRow m n (ts.take j)).2.1
  len : (frRow m n (ts.take j)).2.2.length = j
  row : wj.ownsRow W.heap.size 9 1 v j ((frRow m n (ts.take j)).2.2.map Value.string)
theorem FzSt.but {w w' : World} {S : Nat → Prop} {pn pc mb n : Nat} {m : ByteArray → Option ByteArray} (h : FzSt w pn pc mb m n) (e : ButS S w w') (h1 : ¬ S pn) (h2 : ¬ S pc) (h3 : ¬ S mb) : FzSt w' pn pc mb m n :=
  ⟨e.cell h1 h.c0, e.cell h2 h.c1, frozen_but e h2 (World.block_lt_of_cell? w ⟨pc, 0, none⟩ h.c1) h.fr, smap_but h.map e h3, h.ty.but e h2, h.ne⟩
theorem but_of_grown {w w' : World} {o : Option Nat} (h : w.grownBy w' o) : ButS (fun b => o = some b) w w' := (ButS.refl _ w).grown h (fun _ hb => .inl hb)
/-- One term more. -/
theorem FrI.next {W wj w5 w7 : World} {p6 p7 mb : Nat} {m : ByteArray → Option ByteArray} {n : Nat} {ts : List Term} {j : Nat} {v v' : Value} {t : Term} (h : FrI W p6 p7 mb m n ts j v wj) (ht : ts[j]? = some t) (hp : p6 < W.heap.size ∧ p7 < W.heap.size ∧ mb < W.heap.size)
    (f5 : FzSt w5 p6 p7 mb (frT (frRow m n (ts.take j)).1 (frRow m n (ts.take j)).2.1 t).1 (frT (frRow m n (ts.take j)).1 (frRow m n (ts.take j)).2.1 t).2.1) (b5 : ButS (FzB p7 mb) wj w5) (o : Obj) (q7 : (w5.alloc o).grownBy w7 v.ownBlock)
    (own7 : w7.ownsRow W.heap.size 9 1 v' (j + 1) ((frRow m n (ts.take j)).2.2.map Value.string ++ [.string (frT (frRow m n (ts.take j)).1 (frRow m n (ts.take j)).2.1 t).2.2])) : FrI W p6 p7 mb m n ts (j + 1) v' w7 := by
  have e : frRow m n (ts.take (j + 1)) = frStep (frRow m n (ts.take j)) t := by
    unfold frRow
    rw [take_at ht, List.foldl_append]
    rfl
  have hlt := fun g hg => (h.row.lt g hg).1
  have b7 := but_of_grown q7
  refine ⟨?_, ?_, ?_, ?_⟩
  · exact ((h.but.trans b5).ext (ext_alloc (Below.refl _ _) o)).grown q7 (fun b hb => .inr (hlt b hb))
  · rw [e]
    exact (f5.ext (ext_alloc (Below.refl _ _) o)).but b7 (fun q => by have := hlt _ q; omega) (fun q => by have := hlt _ q; omega) (fun q => by have := hlt _ q; omega)
  · rw [e]
    show ((frRow m n (ts.take j)).2.2 ++ [_]).length = j + 1
    rw [List.length_append, h.len]
    rfl
  · rw [e]
    show w7.ownsRow _ _ _ _ _ (((frRow m n (ts.take j)).2.2 ++ [_]).map Value.string)
    rw [List.map_append]
    exact own7
theorem rise_of {w : World} {lo bb : Nat} {f : RelM} (h : BaseV w lo bb f) (p : ByteArray) : Rising (rsOf f p) := by
  unfold rsOf
  cases hf : f p with
  | none => exact List.Pairwise.nil
  | some x => exact (h.r.rel p x hf).2.2.2.up
theorem FrO.base_at {w1 Wr wj : World} {p6 p7 mb bb lo : Nat} {ls : List K.Lit} {k : Nat} (h : FrO w1 p6 p7 mb bb lo ls k Wr) (b : ButS (FzB p7 mb) Wr wj) : ∃ f, BaseV wj lo bb f ∧ (∀ b, BaseBl wj bb f b → b ≠ p6 ∧ b ≠ p7 ∧ b ≠ mb) ∧ BodyL (ls.take k) (frBody (ls.take k)).2.2 f := by
  obtain ⟨f, h1, h2, h3⟩ := h.base
  obtain ⟨q1, q2⟩ := h1.butF b (fun b hb q => by
    obtain ⟨_, t2, t3⟩ := h2 b q
    rcases hb with hb | hb
    · exact t2 hb
    · exact t3 hb) (fun b hb q => by
    rcases hb with rfl | rfl
    · exact q.ne h.fz.ty (by decide) rfl
    · exact smap_ty h.fz.map q)
  exact ⟨f, q1, fun b hb => h2 b (q2 b hb), h3⟩
theorem FrO.next {w1 Wr wj w9 : World} {p6 p7 mb bb lo : Nat} {ls : List K.Lit} {k n : Nat} {l : K.Lit} {v : Value} {f : RelM} {pb ar : Nat} (h : FrO w1 p6 p7 mb bb lo ls k Wr) (hl : ls[k]? = some l) (hn : l.atom.terms.length = n) (h64 : n ≤ 64) (hI : FrI Wr p6 p7 mb (frBody (ls.take k)).1 (frBody (ls.take k)).2.1 l.atom.terms n v wj) (hlo : w1.heap.size ≤ lo ∧ w1.heap.size ≤ p7 ∧ w1.heap.size ≤ mb) (bv : BaseV wj lo bb f) (apa : ∀ b, BaseBl wj bb f b → b ≠ p6 ∧ b ≠ p7 ∧ b ≠ mb) (body : BodyL (ls.take k) (frBody (ls.take k)).2.2 f)
    (bv' : BaseV w9 lo bb (updF f l.atom.pred (pb, ar, putRow (rsOf f l.atom.pred) (frRow (frBody (ls.take k)).1 (frBody (ls.take k)).2.1 l.atom.terms).2.2))) (mv : BMove bb f (updF f l.atom.pred (pb, ar, putRow (rsOf f l.atom.pred) (frRow (frBody (ls.take k)).1 (frBody (ls.take k)).2.1 l.atom.terms).2.2)) wj w9) : FrO w1 p6 p7 mb bb lo ls (k + 1) w9 := by
  have e : frBody (ls.take (k + 1)) = frLit (frBody (ls.take k)) l := by
    unfold frBody
    rw [take_at hl, List.foldl_append]
    rfl
  have hfz := hI.fz
  have hz := (World.block_lt_of_cell? wj ⟨p6, 0, none⟩ hfz.c0)
  have hz2 := (World.block_lt_of_cell? wj ⟨p7, 0, none⟩ hfz.c1)
  have hz3 := hfz.map.lt
  dsimp only at hz hz2
  have tk : l.atom.terms.take n = l.atom.terms := List.take_of_length_le (by omega)
  rw [tk] at hfz
  have hkl := (List.getElem?_eq_some_iff.1 hl).1
  refine ⟨ext_of_but (ext_of_but h.ext hI.but (fun b hb q => by rcases q with q | q <;> omega)) mv.but (fun b hb q => by have := (bv.bl q).1; omega), ?_, ?_, ?_, _, bv', fun b hb => ?_, ?_⟩
  · rw [e]
    have t1 := (frRow_le l.atom.terms ((frBody (ls.take k)).1, (frBody (ls.take k)).2.1, [])).2.1
    have t2 := h.cnt
    show (frRow _ _ _).2.1 ≤ _
    unfold frRow
    simp only at t1
    omega
  · rw [e]
    show ((frBody (ls.take k)).2.2 ++ [_]).length = k + 1
    rw [List.length_append, h.len]
    rfl
  · rw [e]
    exact hfz.but mv.but (fun q => (apa _ q).1 rfl) (fun q => (apa _ q).2.1 rfl) (fun q => (apa _ q).2.2 rfl)
  · rcases mv.own b hb with q | q
    · exact apa b q
    · omega
  · rw [e, take_at hl]
    exact body.snoc (by rw [h.len, List.length_take]; omega) l _ pb ar (rise_of bv _)
set_option maxRecDepth 100000 in
set_option maxHeartbeats 4000000 in
theorem c_frozen (r : Rule) (ah : Option Addr) (nh ch : Nat) (ab : Option Addr) (nb cb : Nat) (w : World) (hr : RuleV w r ah nh ch ab nb cb) (hnh : nh ≤ 64) (hnb : nb ≤ 64) (h64 : ∀ l ∈ r.body, l.atom.terms.length ≤ 64) :
    Calls Tryz.prog 14 #[.agg #[.string r.head.pred, .slice ah nh ch, .slice ab nb cb]] w (FrozPost r nh w) := by
  obtain ⟨i0, hi, hz0, hz1, hz2⟩ := info_parts info_str
  have HR := Lib.hid hr
  have HLB := Lib.hid hr.body.2.1
  have HLH := Lib.hid hr.terms.2.1
  have H64 := Lib.hid h64
  obtain ⟨w1, hw1⟩ : ∃ w1, w1 = w.alloc (.cells #[.string r.head.pred, .slice ah nh ch, .slice ab nb cb] 27) := ⟨_, rfl⟩
  have E1 : Hid (Ext w w1) := by show Ext _ _; rw [hw1]; exact ext_alloc (Below.refl _ _) _
  have q1 : w1.cell? ⟨w.heap.size, 1, none⟩ = some (.slice ah nh ch) := by rw [hw1]; go_simp
  have q2 : w1.cell? ⟨w.heap.size, 2, none⟩ = some (.slice ab nb cb) := by rw [hw1]; go_simp
  have NB := Lib.hid (c_newBase w1)
  have hmm := @run_makeMap Tryz.prog
  subst hw1
  clear hr h64
  go_enter Tryz.func14, Tryz.ntmps14
  go_wp2_with (go_at_call 21; (with_reducible refine NB.out.mono ?_); rintro e w2 ⟨rfl, v2, e2⟩)
  refine wp_gen (fun W hW => ?_)
  have v2 : BaseV w2 (w.heap.size + 1) (w.heap.size + 1 + 1) (fun _ => none) := by simpa using v2
  have EW2 : Ext w w2 := ext_trans E1.out e2
  have EW : Ext w2 W := by rw [hW]; go_grown
  have z1 : w.heap.size + 1 + 1 < w2.heap.size := (v2.bl (.inl rfl)).2
  have TY0 : Ty W (w2.heap.size + 1 + 1) 3 := by
    rw [hW]
    have := heap_alloc_new ((w2.alloc (.map #[] 0)).alloc (.cells #[.map (some w2.heap.size)] 84)) (.cells #[.int .i64 0] 3)
    exact ⟨#[.int .i64 0], (0, 0), by simpa using this⟩
  have FZ0 : FzSt W (w2.heap.size + 1) (w2.heap.size + 1 + 1) w2.heap.size (fun _ => none) 0 := by
    refine ⟨by rw [hW]; go_simp, by rw [hW]; go_simp, by rw [hW]; go_simp, ?_, TY0, fun v x h => by cases h⟩
    have := (K.SMap.made w2).ext (show Ext (w2.alloc (.map #[] 0)) W by rw [hW]; go_grown)
    exact this
  have BV0 := v2.ext EW
  have BL0 : ∀ b, BaseBl W (w.heap.size + 1 + 1) (fun _ => none) b → b < w2.heap.size := fun b hb => (v2.bl (v2.r.ext_bl EW hb)).2
  obtain ⟨w1, hw1⟩ : ∃ w1, w.alloc (.cells #[.string r.head.pred, .slice ah nh ch, .slice ab nb cb] 27) = w1 := ⟨_, rfl⟩
  have EX1 : Ext w1 W := by rw [← hw1]; exact ext_trans e2 EW
  have Z1 : Hid (w1.heap.size = w.heap.size + 1) := by show _ = _; rw [← hw1]; simp
  rw [hw1] at q1 q2 E1
  obtain ⟨mb, hmb⟩ : ∃ mb, w2.heap.size = mb := ⟨_, rfl⟩
  obtain ⟨bb, hbb⟩ : ∃ bb, w.heap.size + 1 + 1 = bb := ⟨_, rfl⟩
  obtain ⟨p1, hp1⟩ : ∃ p1, w.heap.size = p1 := ⟨_, rfl⟩
  have HP1 := Lib.hid hp1
  rw [hbb, hmb] at z1 BL0
  rw [hmb] at FZ0
  rw [hbb] at BV0 ⊢
  rw [hmb]
  rw [hp1] at BV0 q1 q2 Z1 ⊢
  have HBB : Hid (p1 + 1 + 1 = bb) := by rw [hp1] at hbb; exact hbb
  have ZMB := Lib.hid z1
  have D0 : FrO w1 (mb + 1) (mb + 1 + 1) mb bb (p1 + 1) r.body 0 W := ⟨EX1, by simp [frBody], by simp [frBody], by simpa [frBody] using FZ0, _, BV0, fun b hb => by have := BL0 b hb; omega, fun p y => by simp [BodyL.rowsOf, rsOf]⟩
  clear hW EW e2 v2 hmm NB EW2 BL0 BV0 FZ0 TY0 hmb hbb hp1 EX1 hw1 z1
  go_loopw [9] (fun i wj => ∃ k : Nat, k ≤ nb ∧ i = .int .i64 k ∧ FrO w1 (mb + 1) (mb + 1 + 1) mb bb (p1 + 1) r.body k wj) (fun i _ => nb - (intOf i).toNat)
  case atStart => exact ⟨0, Nat.zero_le _, rfl, D0⟩
  case round =>
    obtain ⟨k, hk, rfl, hD⟩ := hrel
    have c1 := keep hD.ext q1
    have c2 := keep hD.ext q2
    by_cases hlt : k < nb
    · have hki : (k : Int) < (nb : Int) := by omega
      obtain ⟨l, bt, off, hx, rfl, a, n, cap, h0, h1, h2, h3, h4, h5, h6, h7, ht, hcap, hp, hl, hr⟩ := (HR.out.body).2.at hlt
      have HX := Lib.hid hx
      have eD := ext_trans E1.out hD.ext
      have g1 := keep eD h1
      have g2 := keep eD h2
      have G1 := Lib.hid h1
      have G2 := Lib.hid h2
      have hnt := ht.1
      have HLT := Lib.hid ht.2.1
      have HT := Lib.hid ht
      have ED := Lib.hid eD
      have hn64 : n ≤ 64 := by have t1 := H64.out l (List.mem_of_getElem? hx); have t2 := HLT.out; omega
      have HD := Lib.hid hD
      obtain ⟨st, hst⟩ : ∃ st, frBody (r.body.take k) = st := ⟨_, rfl⟩
      have F0 := hD.fz
      have N0 := hD.cnt
      rw [hst] at F0 N0
      have HST := Lib.hid hst
      have HF0 := Lib.hid F0
      have HN0 := Lib.hid N0
      clear hx h0 h1 h2 h3 h4 h5 h6 h7 ht hp hl hr hD eD hst D0 F0 N0
      have ZP : Hid (mb + 1 < wr.heap.size ∧ mb + 1 + 1 < wr.heap.size ∧ mb < wr.heap.size) := by
        have t1 := World.block_lt_of_cell? wr ⟨mb + 1, 0, none⟩ HF0.out.c0
        have t2 := World.block_lt_of_cell? wr ⟨mb + 1 + 1, 0, none⟩ HF0.out.c1
        dsimp only at t1 t2
        exact ⟨t1, t2, by omega⟩
      go_wp2
      refine wp_gen (fun Wr hWr => ?_)
      subst hWr
      go_loopw [10, 11] (fun v i wj => ∃ j : Nat, j ≤ n ∧ i = .int .i64 j ∧ FrI Wr (mb + 1) (mb + 1 + 1) mb st.1 st.2.1 l.atom.terms j v wj) (fun _ i _ => n - (intOf i).toNat)
      case atStart => exact ⟨0, Nat.zero_le _, rfl, ButS.refl _ _, by simpa [frRow] using HF0.out, by simp [frRow], World.ownsRow_nil _ _ _ _⟩
      case round =>
        obtain ⟨j, hj, rfl, hI⟩ := hrel
        have HI := Lib.hid hI
        have EJ : Hid (Ext w wr) := ext_of_but ED.out hI.but (fun b hb q => by have t1 := HP1.out; have t2 := ZMB.out; have t3 := HBB.out; rcases q with q | q <;> omega)
        have d2 := hI.but.cell (b := p1) (o := 2) (by have t2 := ZMB.out; have t3 := HBB.out; intro q; rcases q with q | q <;> omega) c2
        have d3 := keep EJ.out G1.out
        have d4 := keep EJ.out G2.out
        obtain ⟨a3, c3, hv3, _⟩ := own_form hI.row
        subst hv3
        clear hI c1 c2 g1 g2
        by_cases hjt : j < n
        · obtain ⟨t, bt2, off2, hx2, rfl, hc1, hc2, hc3⟩ := (HT.out.keep EJ.out).2.at hjt
          have HX2 := Lib.hid hx2
          obtain ⟨S5, hS5⟩ : ∃ S, frRow st.1 st.2.1 (l.atom.terms.take j) = S := ⟨_, rfl⟩
          have HS5 := Lib.hid hS5
          have NS : S5.2.1 < 100000 := by
            have t1 := (frRow_le (l.atom.terms.take j) (st.1, st.2.1, [])).2.1
            have t2 : (frRow st.1 st.2.1 (l.atom.terms.take j)).2.1 = S5.2.1 := by rw [hS5]
            unfold frRow at t2
            have t3 := HN0.out
            rw [List.length_take] at t1
            simp only at t1
            omega
          have IS := Lib.hid (c_is t S5.1 S5.2.1 (mb + 1) (mb + 1 + 1) mb wr (by have := HI.out.fz; rwa [hS5] at this) NS)
          have OW := Lib.hid (show wr.ownsRow Wr.heap.size 9 1 (.slice a3 j c3) j (S5.2.2.map Value.string) by have := HI.out.row; rwa [hS5] at this)
          clear hx2 hS5 NS
          go_wp2_with (first
            | (go_at_call 35; (with_reducible refine IS.out.mono ?_); rintro e w5 ⟨rfl, f5, b5⟩; have own5 := b5.own OW.out (fun b hb q => by have t1 := (OW.out.lt b hb).1; have t2 := ZP.out; rcases q with q | q <;> omega); have Z5 := Nat.le_trans HI.out.but.size b5.size)
            | (at_builtin; go_loud (refine wpList_append_lies _ rfl _ _ 46 rfl Wr.heap.size 9 i0 (.string ⟨#[]⟩) 1 16 Tryz.underlying46 hi hz0 hz1 hz2 rfl (by decide) _ j (S5.2.2.map Value.string) rfl (own5.alloc _) ⟨w5.heap.size, 0, none⟩ 1 1 [.string (frT S5.1 S5.2.1 t).2.2] rfl rfl (news1 _ _ _) (fun x hx => by cases List.mem_singleton.1 hx; rfl) (Nat.zero_lt_one) (by unfold maxLen; omega) (by omega) (size_alloc_le Z5) _ rfl ?_); intro g7 p7 w7 own7 q7 hat7 hlt7))
          go_roundw
          case rel =>
            refine ⟨j + 1, by omega, by go_num, ?_⟩
            refine HI.out.next HX2.out ZP.out (w5 := w5) (t := t) ?_ b5 _ q7 ?_
            · rw [HS5.out]; exact f5
            · rw [HS5.out]; exact own7
          case measure => simp [intOf]; omega
        · obtain rfl : j = n := by omega
          obtain ⟨f, bv, apa, body⟩ := HD.out.base_at HI.out.but
          obtain ⟨row, hrow⟩ : ∃ row, (frRow st.1 st.2.1 l.atom.terms).2.2 = row := ⟨_, rfl⟩
          have HROW := Lib.hid hrow
          have hown := HI.out.row
          rw [List.take_of_length_le (by have := HLT.out; omega), hrow] at hown
          have BA := Lib.hid (c_badd (p1 + 1) bb f l.atom.pred row a3 j c3 wr bv (own_strs hown (by unfold maxLen; omega)) (cap_of_own hown).2 (by omega))
          have BV := Lib.hid bv
          have APA := Lib.hid apa
          have BODY := Lib.hid body
          clear bv apa body hrow hown
          go_wp2_with (first
            | (go_at_call 23; (with_reducible refine BA.out.mono ?_); rintro e w9 ⟨⟨b9, q9, rfl, h9⟩, b10⟩)
            | (go_at_call 7; (with_reducible refine (K.c_num _ _).mono ?_); rintro e w10 ⟨rfl, hwn⟩; obtain rfl := hwn.symm))
          · go_returns
            exact ⟨ext_of_but EJ.out b10 (fun b hb q => by have t1 := (BV.out.bl q).1; have t2 := HP1.out; omega), .inl rfl⟩
          · rename_i hq9
            obtain ⟨pb, v9, m9, _⟩ := h9 (by simpa using hq9)
            refine ⟨⟨k + 1, by omega, by go_num, ?_⟩, by simp [intOf]; omega⟩
            have hI := HI.out
            have hb' := BODY.out
            have hrw := HROW.out
            rw [← hrw, ← HST.out] at v9 m9
            rw [← HST.out] at hI
            exact HD.out.next HX.out HLT.out hn64 hI (by have t1 := Z1.out; have t2 := ZMB.out; have t3 := HBB.out; omega) BV.out APA.out hb' v9 m9
    · obtain rfl : k = nb := by omega
      have hge : ¬ (k : Int) < (k : Int) := by omega
      have HD := Lib.hid hD
      obtain ⟨st, hst⟩ : ∃ st, frBody (r.body.take k) = st := ⟨_, rfl⟩
      have F0 := hD.fz
      have N0 := hD.cnt
      rw [hst] at F0 N0
      have HST := Lib.hid hst
      have HF0 := Lib.hid F0
      have HN0 := Lib.hid N0
      have ED := Lib.hid (ext_trans E1.out hD.ext)
      clear hD hst D0 F0 N0
      have ZP : Hid (mb + 1 < wr.heap.size ∧ mb + 1 + 1 < wr.heap.size ∧ mb < wr.heap.size) := by
        have t1 := World.block_lt_of_cell? wr ⟨mb + 1, 0, none⟩ HF0.out.c0
        have t2 := World.block_lt_of_cell? wr ⟨mb + 1 + 1, 0, none⟩ HF0.out.c1
        dsimp only at t1 t2
        exact ⟨t1, t2, by omega⟩
      go_wp2
      refine wp_gen (fun Wr hWr => ?_)
      subst hWr
      go_loopw [14, 15] (fun v i wj => ∃ j : Nat, j ≤ nh ∧ i = .int .i64 j ∧ FrI Wr (mb + 1) (mb + 1 + 1) mb st.1 st.2.1 r.head.terms j v wj) (fun _ i _ => nh - (intOf i).toNat)
      case atStart => exact ⟨0, Nat.zero_le _, rfl, ButS.refl _ _, by simpa [frRow] using HF0.out, by simp [frRow], World.ownsRow_nil _ _ _ _⟩
      case round =>
        obtain ⟨j, hj, rfl, hI⟩ := hrel
        have HI := Lib.hid hI
        have EJ : Hid (Ext w wr) := ext_of_but ED.out hI.but (fun b hb q => by have t1 := HP1.out; have t2 := ZMB.out; have t3 := HBB.out; rcases q with q | q <;> omega)
        have d1 := hI.but.cell (b := p1) (o := 1) (by have t2 := ZMB.out; have t3 := HBB.out; intro q; rcases q with q | q <;> omega) c1
        obtain ⟨a3, c3, hv3, _⟩ := own_form hI.row
        subst hv3
        clear hI c1 c2
        by_cases hjt : j < nh
        · obtain ⟨t, bt2, off2, hx2, rfl, hc1, hc2, hc3⟩ := (HR.out.terms.keep EJ.out).2.at hjt
          have HX2 := Lib.hid hx2
          obtain ⟨S5, hS5⟩ : ∃ S, frRow st.1 st.2.1 (r.head.terms.take j) = S := ⟨_, rfl⟩
          have HS5 := Lib.hid hS5
          have NS : S5.2.1 < 100000 := by
            have t1 := (frRow_le (r.head.terms.take j) (st.1, st.2.1, [])).2.1
            have t2 : (frRow st.1 st.2.1 (r.head.terms.take j)).2.1 = S5.2.1 := by rw [hS5]
            unfold frRow at t2
            have t3 := HN0.out
            rw [List.length_take] at t1
            simp only at t1
            omega
          have IS := Lib.hid (c_is t S5.1 S5.2.1 (mb + 1) (mb + 1 + 1) mb wr (by have := HI.out.fz; rwa [hS5] at this) NS)
          have OW := Lib.hid (show wr.ownsRow Wr.heap.size 9 1 (.slice a3 j c3) j (S5.2.2.map Value.string) by have := HI.out.row; rwa [hS5] at this)
          clear hx2 hS5 NS
          go_wp2_with (first
            | (go_at_call 35; (with_reducible refine IS.out.mono ?_); rintro e w5 ⟨rfl, f5, b5⟩; have own5 := b5.own OW.out (fun b hb q => by have t1 := (OW.out.lt b hb).1; have t2 := ZP.out; rcases q with q | q <;> omega); have Z5 := Nat.le_trans HI.out.but.size b5.size)
            | (at_builtin; go_loud (refine wpList_append_lies _ rfl _ _ 46 rfl Wr.heap.size 9 i0 (.string ⟨#[]⟩) 1 16 Tryz.underlying46 hi hz0 hz1 hz2 rfl (by decide) _ j (S5.2.2.map Value.string) rfl (own5.alloc _) ⟨w5.heap.size, 0, none⟩ 1 1 [.string (frT S5.1 S5.2.1 t).2.2] rfl rfl (news1 _ _ _) (fun x hx => by cases List.mem_singleton.1 hx; rfl) (Nat.zero_lt_one) (by unfold maxLen; omega) (by omega) (size_alloc_le Z5) _ rfl ?_); intro g7 p7 w7 own7 q7 hat7 hlt7))
          go_roundw
          case rel =>
            refine ⟨j + 1, by omega, by go_num, ?_⟩
            refine HI.out.next HX2.out ZP.out (w5 := w5) (t := t) ?_ b5 _ q7 ?_
            · rw [HS5.out]; exact f5
            · rw [HS5.out]; exact own7
          case measure => simp [intOf]; omega
        · obtain rfl : j = nh := by omega
          have hge2 : ¬ (j : Int) < (j : Int) := by omega
          obtain ⟨f, bv, apa, body⟩ := HD.out.base_at HI.out.but
          have hown := HI.out.row
          rw [List.take_of_length_le (by have := HLH.out; omega), ← HST.out] at hown
          rw [List.take_of_length_le (by have := HLB.out; omega)] at body hown
          go_wp2
          go_returns
          exact ⟨EJ.out, .inr ⟨p1 + 1, bb, f, a3, c3, rfl, bv, by have := HP1.out; omega, body, own_strs hown (by unfold maxLen; omega), (cap_of_own hown).2⟩⟩
end Go.Proofs.YtpgbenijjodoeaaGreat
namespace Go.Proofs.YtpgbenijjodoeaaGreat
open K (Term Atom Rule plain)
def InvF (T : Nat → Tag) (m : ByteArray → Option ByteArray) (n : Nat) : Prop := ∀ v x, m v = some x → ∃ i, i ≤ n ∧ x = frz i ∧ T i = .var v
structure StepF (T : Nat → Tag) (m : ByteArray → Option ByteArray) (n : Nat) (T' : Nat → Tag) (m' : ByteArray → Option ByteArray) (n' : Nat) : Prop where
  le : n ≤ n'
  sub : ∀ v x, m v = some x → m' v = some x
  tag : ∀ i, i ≤ n → T' i = T i
theorem StepF.refl (T : Nat → Tag) (m : ByteArray → Option ByteArray) (n : Nat) : StepF T m n T m n := ⟨Nat.le_refl _, fun _ _ h => h, fun _ _ => rfl⟩
theorem StepF.trans {T T' T2 : Nat → Tag} {m m' m2 : ByteArray → Option ByteArray} {n n' n2 : Nat} (a : StepF T m n T' m' n') (b : StepF T' m' n' T2 m2 n2) : StepF T m n T2 m2 n2 :=
  ⟨Nat.le_trans a.le b.le, fun v x h => b.sub v x (a.sub v x h), fun i hi => (b.tag i (Nat.le_trans hi a.le)).trans (a.tag i hi)⟩
structure ValF (T : Nat → Tag) (m : ByteArray → Option ByteArray) (n : Nat) (k j : Nat) (t : Term) (x : ByteArray) : Prop where
  c : t.kind = 3 → x = t.text
  v : t.kind = 1 → m t.text = some x
  n : t.kind ≠ 3 → ∃ i, i ≤ n ∧ x = frz i ∧ T i = tagOf t k j
theorem ValF.up {T T' : Nat → Tag} {m m' : ByteArray → Option ByteArray} {n n' k j : Nat} {t : Term} {x : ByteArray} (h : ValF T m n k j t x) (s : StepF T m n T' m' n') : ValF T' m' n' k j t x :=
  ⟨h.c, fun h1 => s.sub _ _ (h.v h1), fun h3 => by
    obtain ⟨i, h1, h2, h4⟩ := h.n h3
    exact ⟨i, Nat.le_trans h1 s.le, h2, (s.tag i h1).trans h4⟩⟩
theorem frT_step {T : Nat → Tag} {m : ByteArray → Option ByteArray} {n : Nat} (h : InvF T m n) (t : Term) (k j : Nat) : ∃ T', InvF T' (frT m n t).1 (frT m n t).2.1 ∧ StepF T m n T' (frT m n t).1 (frT m n t).2.1 ∧ ValF T' (frT m n t).1 (frT m n t).2.1 k j t (frT m n t).2.2 := by
  have new : ∀ m' : ByteArray → Option ByteArray, (∀ v x, m v = some x → m' v = some x) → (∀ v x, m' v = some x → m v = some x ∨ (t.kind = 1 ∧ v = t.text ∧ x = frz (n + 1))) → (t.kind = 1 → m' t.text = some (frz (n + 1))) → t.kind ≠ 3 → ∃ T', InvF T' m' (n + 1) ∧ StepF T m n T' m' (n + 1) ∧ ValF T' m' (n + 1) k j t (frz (n + 1)) := by
    intro m' h1 h2 h3 h4
    refine ⟨fun i => if i = n + 1 then tagOf t k j else T i, fun v x hv => ?_, ⟨by omega, h1, fun i hi => if_neg (by omega)⟩, ⟨fun q => absurd q h4, h3, fun _ => ⟨n + 1, Nat.le_refl _, rfl, if_pos rfl⟩⟩⟩
    rcases h2 v x hv with q | ⟨q1, rfl, rfl⟩
    · obtain ⟨i, a, b, c⟩ := h v x q
      exact ⟨i, by omega, b, by show (if i = n + 1 then _ else _) = _; rw [if_neg (by omega)]; exact c⟩
    · exact ⟨n + 1, Nat.le_refl _, rfl, by show (if n + 1 = n + 1 then _ else _) = _; rw [if_pos rfl]; unfold tagOf; rw [if_pos q1]⟩
  by_cases h3 : t.kind = 3
  · have e : frT m n t = (m, n, t.text) := by unfold frT; rw [if_pos h3]
    rw [e]
    exact ⟨T, h, StepF.refl _ _ _, ⟨fun _ => rfl, fun q => by omega, fun q => absurd h3 q⟩⟩
  · by_cases h1 : t.kind = 1
    · cases hm : m t.text with
      | some x =>
        have e : frT m n t = (m, n, x) := by unfold frT; rw [if_neg h3, if_pos h1, hm]
        rw [e]
        obtain ⟨i, a, b, c⟩ := h _ _ hm
        exact ⟨T, h, StepF.refl _ _ _, ⟨fun q => absurd q h3, fun _ => hm, fun _ => ⟨i, a, b, by rw [c]; unfold tagOf; rw [if_pos h1]⟩⟩⟩
      | none =>
        have e : frT m n t = (updM m t.text (frz (n + 1)), n + 1, frz (n + 1)) := by unfold frT; rw [if_neg h3, if_pos h1, hm]
        rw [e]
        refine new (updM m t.text (frz (n + 1))) (fun v x hv => ?_) (fun v x hv => ?_) (fun _ => by unfold updM; rw [if_pos rfl]) h3
        · unfold updM
          rw [if_neg (by intro q; rw [q, hm] at hv; cases hv)]
          exact hv
        · unfold updM at hv
          split at hv
          · rename_i q
            exact .inr ⟨h1, q, (Option.some.inj hv).symm⟩
          · exact .inl hv
    · have e : frT m n t = (m, n + 1, frz (n + 1)) := by unfold frT; rw [if_neg h3, if_neg h1]
      rw [e]
      exact new m (fun _ _ q => q) (fun _ _ q => .inl q) (fun q => absurd q h1) h3
theorem frRow_step (k : Nat) (ts : List Term) : ∀ (T : Nat → Tag) (m : ByteArray → Option ByteArray) (n : Nat) (acc : List ByteArray), InvF T m n → ∃ T' xs, (ts.foldl frStep (m, n, acc)).2.2 = acc ++ xs ∧ InvF T' (ts.foldl frStep (m, n, acc)).1 (ts.foldl frStep (m, n, acc)).2.1 ∧ StepF T m n T' (ts.foldl frStep (m, n, acc)).1 (ts.foldl frStep (m, n, acc)).2.1 ∧ xs.length = ts.length ∧ ∀ j t, ts[j]? = some t → ValF T' (ts.foldl frStep (m, n, acc)).1 (ts.foldl frStep (m, n, acc)).2.1 k (acc.length + j) t (gt xs j) := by
  induction ts with
  | nil => intro T m n acc h; exact ⟨T, [], by simp, h, StepF.refl _ _ _, rfl, fun j t e => by simp at e⟩
  | cons t ts ih =>
    intro T m n acc h
    obtain ⟨T1, i1, s1, v1⟩ := frT_step h t k acc.length
    obtain ⟨T2, xs, e2, i2, s2, l2, v2⟩ := ih T1 (frT m n t).1 (frT m n t).2.1 (acc ++ [(frT m n t).2.2]) i1
    have ee : (t :: ts).foldl frStep (m, n, acc) = ts.foldl frStep ((frT m n t).1, (frT m n t).2.1, acc ++ [(frT m n t).2.2]) := rfl
    rw [ee]
    refine ⟨T2, (frT m n t).2.2 :: xs, by rw [e2]; simp, i2, s1.trans s2, by simp [l2], fun j t' hj => ?_⟩
    cases j with
    | zero =>
      simp at hj
      subst hj
      exact v1.up s2
    | succ j =>
      have := v2 j t' (by simpa using hj)
      rw [List.length_append, List.length_singleton, Nat.add_assoc, Nat.add_comm 1 j] at this
      exact this
theorem frBody_step (ls : List K.Lit) : ∀ (T : Nat → Tag) (m : ByteArray → Option ByteArray) (n : Nat) (acc : List (List ByteArray)), InvF T m n → ∃ T' rows, (ls.foldl frLit (m, n, acc)).2.2 = acc ++ rows ∧ InvF T' (ls.foldl frLit (m, n, acc)).1 (ls.foldl frLit (m, n, acc)).2.1 ∧ StepF T m n T' (ls.foldl frLit (m, n, acc)).1 (ls.foldl frLit (m, n, acc)).2.1 ∧ rows.length = ls.length ∧ ∀ (k : Nat) (l : K.Lit), ls[k]? = some l → ∃ q, rows[k]? = some q ∧ q.length = l.atom.terms.length ∧ ∀ j t, l.atom.terms[j]? = some t → ValF T' (ls.foldl frLit (m, n, acc)).1 (ls.foldl frLit (m, n, acc)).2.1 (acc.length + k) j t (gt q j) := by
  induction ls with
  | nil => intro T m n acc h; exact ⟨T, [], by simp, h, StepF.refl _ _ _, rfl, fun k l e => by simp at e⟩
  | cons l ls ih =>
    intro T m n acc h
    obtain ⟨T1, xs, e1, i1, s1, l1, v1⟩ := frRow_step acc.length l.atom.terms T m n [] h
    obtain ⟨T2, rows, e2, i2, s2, l2, v2⟩ := ih T1 _ _ (acc ++ [xs]) i1
    have ee : (l :: ls).foldl frLit (m, n, acc) = ls.foldl frLit ((l.atom.terms.foldl frStep (m, n, [])).1, (l.atom.terms.foldl frStep (m, n, [])).2.1, acc ++ [xs]) := by
      rw [List.foldl_cons]
      congr 1
      unfold frLit frRow
      rw [e1]
      rfl
    rw [ee]
    refine ⟨T2, xs :: rows, by rw [e2]; simp, i2, s1.trans s2, by simp [l2], fun k l' hk => ?_⟩
    cases k with
    | zero =>
      simp at hk
      subst hk
      exact ⟨xs, rfl, l1, fun j t ht => by have := (v1 j t ht).up s2; simpa using this⟩
    | succ k =>
      obtain ⟨q, q1, q2, q3⟩ := v2 k l' (by simpa using hk)
      refine ⟨q, by simpa using q1, q2, fun j t ht => ?_⟩
      have := q3 j t ht
      rw [List.length_append, List.length_singleton, Nat.add_assoc, Nat.add_comm 1 k] at this
      exact this
theorem frBody_le (ls : List K.Lit) (h : ∀ l ∈ ls, l.atom.terms.length ≤ 64) : ∀ s : FzL, (ls.foldl frLit s).2.1 ≤ s.2.1 + 64 * ls.length := by
  induction ls with
  | nil => intro s; simp
  | cons l ls ih =>
    intro s
    have h1 := ih (fun l' h' => h l' (by simp [h'])) (frLit s l)
    have h2 := h l (by simp)
    have h3 := (frRow_le l.atom.terms (s.1, s.2.1, [])).2.1
    rw [List.foldl_cons, List.length_cons]
    have e : (frLit s l).2.1 = (l.atom.terms.foldl frStep (s.1, s.2.1, [])).2.1 := rfl
    simp only at h3
    omega
theorem froz_of {r : Rule} (hr : plain r = true) : ∃ T σ, Froz r T σ (frBody r.body).2.2 (frRow (frBody r.body).1 (frBody r.body).2.1 r.head.terms).2.2 := by
  obtain ⟨⟨p1, _⟩, p2, p3⟩ := plain_terms hr
  have hle := frBody_le r.body (fun l hl => (p3 l hl).1) ((fun _ => none), 0, [])
  obtain ⟨T1, rows, e1, i1, s1, l1, v1⟩ := frBody_step r.body (fun _ => .blank 0 0) (fun _ => none) 0 [] (fun v x h => by cases h)
  obtain ⟨T2, xs, e2, i2, s2, l2, v2⟩ := frRow_step 0 r.head.terms T1 _ _ [] i1
  have hle2 := (frRow_le r.head.terms ((frBody r.body).1, (frBody r.body).2.1, [])).2.1
  unfold frBody at *
  unfold frRow
  generalize r.body.foldl frLit ((fun _ => none), 0, []) = B at *
  generalize r.head.terms.foldl frStep (B.1, B.2.1, []) = H at *
  simp only [List.nil_append] at e1 e2
  have hb : H.2.1 ≤ 10000 := by simp only at hle hle2; omega
  rw [e1, e2]
  have fin : ∀ k j t x, ValF T2 H.1 H.2.1 k j t x → Val T2 (fun v => (H.1 v).getD ⟨#[]⟩) k j t x := fun k j t x h => ⟨h.c, fun h1 => by show x = (H.1 t.text).getD _; rw [h.v h1]; rfl, fun h3 => by
    obtain ⟨i, a, b, c⟩ := h.n h3
    exact ⟨i, by omega, b, c⟩⟩
  refine ⟨T2, fun v => (H.1 v).getD ⟨#[]⟩, fun k l hk => ?_, l2, fun j t ht => ?_⟩
  · obtain ⟨q, q1, q2, q3⟩ := v1 k l hk
    refine ⟨q, q1, q2, fun j t ht => fin _ _ _ _ ?_⟩
    have := (q3 j t ht).up s2
    simpa using this
  · have := fin _ _ _ _ (v2 j t ht)
    simpa using this
end Go.Proofs.YtpgbenijjodoeaaGreat
namespace Go.Proofs.YtpgbenijjodoeaaGreat
open Go.ChangeShapes Go.WideShapes Go.ChangeAt Go.RowKit
open K (Term Atom Rule TermsAt LitsAt RuleV termAt litAt)
def cutF (s : ByteArray) : Bool := s.extract 0 7 == ⟨#[102, 114, 111, 122, 101, 110, 32]⟩
theorem oddC_eq (t : Term) : oddC t = ((t.kind == 3) && (decide (6 < (t.text.size : Int)) && cutF t.text)) := by
  unfold oddC cutF
  have e1 : decide (6 < t.text.size) = decide (6 < (t.text.size : Int)) := by congr 1; simp; omega
  have e2 : decide (t.text.extract 0 7 = ⟨#[102, 114, 111, 122, 101, 110, 32]⟩) = (t.text.extract 0 7 == ⟨#[102, 114, 111, 122, 101, 110, 32]⟩) := by
    rw [Bool.eq_iff_iff]
    simp
  rw [e1, e2]
  rfl
set_option maxRecDepth 100000 in
theorem c_clean1 (p : ByteArray) (ts : List Term) (a : Option Addr) (n c : Nat) (w : World) (ht : TermsAt w a n ts) : Calls Tryz.prog 37 #[.agg #[.string p, .slice a n c]] w fun e w' => e = .returned (.bool (ts.any oddC)) ∧ Ext w w' := by
  have HT := Lib.hid ht
  have HL := Lib.hid ht.2.1
  have hn := ht.1
  have E1 : Hid (Ext w (w.alloc (.cells #[.string p, .slice a n c] 24))) := ext_alloc (Below.refl _ _) _
  obtain ⟨w1, hw1⟩ : ∃ w1, w1 = w.alloc (.cells #[.string p, .slice a n c] 24) := ⟨_, rfl⟩
  have C1 : Hid (w1.cell? ⟨w.heap.size, 1, none⟩ = some (.slice a n c)) := by show _ = _; rw [hw1]; go_simp
  rw [← hw1] at E1
  clear ht
  go_enter Tryz.func37, Tryz.ntmps37
  go_wp2
  rw [← hw1]
  clear hw1
  go_loopw [3] (fun u wj => ∃ k : Nat, k ≤ n ∧ u = .int .i64 k ∧ (ts.take k).any oddC = false ∧ Ext w1 wj) (fun u _ => n - (intOf u).toNat)
  case atStart => exact ⟨0, Nat.zero_le _, rfl, by simp, Below.refl _ _⟩
  case round =>
    obtain ⟨k, hk, rfl, hq, hE⟩ := hrel
    have HQ := Lib.hid hq
    have HE := Lib.hid hE
    have cw := keep hE C1.out
    clear hq
    by_cases hlt : k < n
    · have hki : (k : Int) < (n : Int) := by omega
      obtain ⟨t, bt, off, hx, rfl, hc1, hc2, hc3⟩ := (HT.out.keep (ext_trans E1.out hE)).2.at hlt
      have HX := Lib.hid (take_at hx)
      have HXA := Lib.hid hx
      clear hx
      obtain ⟨b3, e3⟩ : ∃ b, (t.kind == 3) = b := ⟨_, rfl⟩
      obtain ⟨b6, e6⟩ : ∃ b, decide (6 < (t.text.size : Int)) = b := ⟨_, rfl⟩
      obtain ⟨bf, ef⟩ : ∃ b, (t.text.extract 0 7 == ⟨#[102, 114, 111, 122, 101, 110, 32]⟩) = b := ⟨_, rfl⟩
      have HO : Hid (oddC t = (b3 && (b6 && bf))) := by show _ = _; rw [oddC_eq, e3, e6]; unfold cutF; rw [ef]
      have ef2 : ((t.text.extract 0 7).toList == [102, 114, 111, 122, 101, 110, 32]) = bf := by
        rw [← ef, Bool.eq_iff_iff, text_is]
        simp
      have h7 : b6 = true → (7 : Int) ≤ (t.text.size : Int) := fun h => by rw [h] at e6; have := of_decide_eq_true e6; omega
      have h8 : b6 = true → (7 : Nat) ≤ t.text.size := fun h => by have := h7 h; omega
      cases b3 with
      | false =>
        clear h7 h8
        go_wp2
        go_roundw
        case rel => exact ⟨k + 1, by omega, by go_num, by rw [HX.out, List.any_append, HQ.out]; simp [HO.out], ext_alloc HE.out _⟩
        case measure => simp [intOf]; omega
      | true =>
        cases b6 with
        | false =>
          clear h7 h8
          go_wp2
          go_roundw
          case rel => exact ⟨k + 1, by omega, by go_num, by rw [HX.out, List.any_append, HQ.out]; simp [HO.out], ext_alloc HE.out _⟩
          case measure => simp [intOf]; omega
        | true =>
          have h7 := h7 rfl
          have h8 := h8 rfl
          cases bf with
          | false =>
            go_wp2
            go_roundw
            case rel => exact ⟨k + 1, by omega, by go_num, by rw [HX.out, List.any_append, HQ.out]; simp [HO.out], ext_alloc HE.out _⟩
            case measure => simp [intOf]; omega
          | true =>
            go_wp2
            go_returns
            refine ⟨ret_bool ?_, ext_trans E1.out (ext_alloc HE.out _)⟩
            symm
            rw [List.any_eq_true]
            exact ⟨t, List.mem_of_getElem? (i := k) (HXA.out), by rw [HO.out]; rfl⟩
    · obtain rfl : k = n := by omega
      have hge : ¬ (k : Int) < (k : Int) := by omega
      go_wp2
      go_returns
      refine ⟨ret_bool ?_, ext_trans E1.out HE.out⟩
      rw [List.take_of_length_le (by have := HL.out; omega)] at HQ
      exact HQ.out.symm
set_option maxRecDepth 100000 in
theorem c_cleanR (r : Rule) (ah : Option Addr) (nh ch : Nat) (ab : Option Addr) (nb cb : Nat) (w : World) (hr : RuleV w r ah nh ch ab nb cb) :
    Calls Tryz.prog 15 #[.agg #[.string r.head.pred, .slice ah nh ch, .slice ab nb cb]] w fun e w' => e = .returned (.bool (cleanR r)) ∧ Ext w w' := by
  have HR := Lib.hid hr
  have HLB := Lib.hid hr.body.2.1
  have hnb := hr.body.1
  obtain ⟨w1, hw1⟩ : ∃ w1, w1 = w.alloc (.cells #[.string r.head.pred, .slice ah nh ch, .slice ab nb cb] 27) := ⟨_, rfl⟩
  have E1 : Hid (Ext w w1) := by show Ext _ _; rw [hw1]; exact ext_alloc (Below.refl _ _) _
  have C0 : Hid (w1.cell? ⟨w.heap.size, 0, none⟩ = some (.string r.head.pred)) := by show _ = _; rw [hw1]; go_simp
  have C1 : Hid (w1.cell? ⟨w.heap.size, 1, none⟩ = some (.slice ah nh ch)) := by show _ = _; rw [hw1]; go_simp
  have C2 : Hid (w1.cell? ⟨w.heap.size, 2, none⟩ = some (.slice ab nb cb)) := by show _ = _; rw [hw1]; go_simp
  clear hr
  go_enter Tryz.func15, Tryz.ntmps15
  go_wp2
  rw [← hw1]
  clear hw1
  go_loopw [4] (fun u wj => ∃ k : Nat, k ≤ nb ∧ u = .int .i64 k ∧ ((r.body.take k).all fun l => !l.atom.terms.any oddC) = true ∧ Ext w1 wj) (fun u _ => nb - (intOf u).toNat)
  case atStart => exact ⟨0, Nat.zero_le _, rfl, by simp, Below.refl _ _⟩
  case round =>
    obtain ⟨k, hk, rfl, hq, hE⟩ := hrel
    have HQ := Lib.hid hq
    have HE := Lib.hid hE
    have c0 := keep hE C0.out
    have c1 := keep hE C1.out
    have c2 := keep hE C2.out
    have EW : Hid (Ext w wr) := ext_trans E1.out hE
    clear hq hE
    by_cases hlt : k < nb
    · have hki : (k : Int) < (nb : Int) := by omega
      obtain ⟨l, bt, off, hx, rfl, a, n, cap, h0, h1, h2, h3, h4, h5, h6, h7, ht, hcap, hp, hl, hr⟩ := (HR.out.body).2.at hlt
      have g1 := keep EW.out h1
      have g2 := keep EW.out h2
      have HX := Lib.hid (take_at hx)
      have HXA := Lib.hid hx
      have CL := Lib.hid (c_clean1 l.atom.pred l.atom.terms a n cap wr (ht.keep EW.out))
      obtain ⟨q, hq⟩ : ∃ q, l.atom.terms.any oddC = q := ⟨_, rfl⟩
      have HQ2 := Lib.hid hq
      rw [hq] at CL
      clear hx h0 h1 h2 h3 h4 h5 h6 h7 ht hp hl hr hq
      cases q with
      | true =>
        go_wp2_with (go_at_call 37; (with_reducible refine CL.out.mono ?_); rintro e w2 ⟨rfl, e2⟩)
        go_returns
        refine ⟨ret_bool ?_, ext_trans EW.out e2⟩
        symm
        unfold cleanR
        rw [Bool.and_eq_false_iff]
        refine .inl ?_
        rw [List.all_eq_false]
        exact ⟨l, List.mem_of_getElem? HXA.out, by rw [HQ2.out]; simp⟩
      | false =>
        go_wp2_with (go_at_call 37; (with_reducible refine CL.out.mono ?_); rintro e w2 ⟨rfl, e2⟩)
        go_roundw
        case rel => exact ⟨k + 1, by omega, by go_num, by rw [HX.out, List.all_append, HQ.out]; simp [HQ2.out], ext_trans HE.out e2⟩
        case measure => simp [intOf]; omega
    · obtain rfl : k = nb := by omega
      have hge : ¬ (k : Int) < (k : Int) := by omega
      have CL := Lib.hid (c_clean1 r.head.pred r.head.terms ah nh ch wr (HR.out.terms.keep EW.out))
      have HQ3 : Hid (cleanR r = !r.head.terms.any oddC) := by
        show _ = _
        unfold cleanR
        have := HQ.out
        have tk : r.body.take k = r.body := List.take_of_length_le (by have := HLB.out; omega)
        rw [tk] at this
        rw [this]
        rfl
      go_wp2_with (go_at_call 37; (with_reducible refine CL.out.mono ?_); rintro e w2 ⟨rfl, e2⟩)
      go_returns
      exact ⟨ret_bool HQ3.out.symm, ext_trans EW.out e2⟩
end Go.Proofs.YtpgbenijjodoeaaGreat
namespace Go.Proofs.YtpgbenijjodoeaaGreat
open Go.ChangeShapes Go.WideShapes Go.ChangeAt Go.RowKit Go.Shelf
open K (Term Atom Rule TermsAt LitsAt RuleV termAt litAt laid plain)
def FactsD (r : Rule) (nh : Nat) (f : RelM) (w : World) (e : Ending) (w' : World) : Prop := Ext w w' ∧ (e = .returned (.tuple #[.pointer none, .int .i64 4]) ∨ ∃ pr rows, e = .returned (.tuple #[.pointer (some ⟨pr, 0, none⟩), .int .i64 0]) ∧ RowsV w' (pr + 1) pr nh rows ∧ RelOk nh rows ∧ ∀ y, y ∈ rows ↔ Derives r f y)
theorem plain_sizes {r : Rule} (h : plain r = true) : r.head.terms.length ≤ 64 ∧ r.body.length ≤ 64 ∧ ∀ l ∈ r.body, l.atom.terms.length ≤ 64 := by
  obtain ⟨h1, h2, h3⟩ := plain_terms h
  exact ⟨h1.1, h2, fun l hl => (h3 l hl).1⟩
theorem c_factsP (r : Rule) (ah : Option Addr) (nh ch : Nat) (ab : Option Addr) (nb cb : Nat) (lo bb : Nat) (f : RelM) (w : World) (hr : RuleV w r ah nh ch ab nb cb) (hB : BaseV w lo bb f) (hp : plain r = true) :
    Calls Tryz.prog 11 #[.agg #[.string r.head.pred, .slice ah nh ch, .slice ab nb cb], .pointer (some ⟨bb, 0, none⟩)] w (FactsD r nh f w) := by
  obtain ⟨h1, h2, h3, h4⟩ := plain_check hp
  have h5 := plain_vars hp
  have h6 := (plain_sizes hp).2.1
  have h7 := hr.body.2.1
  have h8 := hr.terms.2.1
  refine (c_facts r ah nh ch ab nb cb lo bb f w hr hB h4 h1 h2 h3 (by omega) (by omega)).mono ?_
  rintro e w' ⟨e1, h | ⟨pr, rows, h, q1, q2, q3⟩⟩
  · exact ⟨e1, .inl h⟩
  · rw [h8] at q1 q2
    exact ⟨e1, .inr ⟨pr, rows, h, q1, q2, fun y => (q3 y).trans (derives_iff h4 h1 h2 y)⟩⟩
theorem law_derives {r s : Rule} (hr : plain r = true) (hs : plain s = true) (h : K.Hom r s) {f : RelM} {y : List ByteArray} (d : Derives r f y) : Derives s f y := hom_derives hr hs h d
theorem law_frozen {r s : Rule} (hr : plain r = true) (hs : plain s = true) (cr : cleanR r = true) (cs : cleanR s = true) {f : RelM} (hf : BodyL r.body (frBody r.body).2.2 f) (hp : r.head.pred = s.head.pred) (hl : r.head.terms.length = s.head.terms.length) : Derives s f (frRow (frBody r.body).1 (frBody r.body).2.1 r.head.terms).2.2 ↔ K.Hom r s := by
  obtain ⟨T, σ, hz⟩ := froz_of hr
  exact frozen_law hr hs cr cs hz hf hp hl
theorem hom_head {r s : Rule} (h : K.Hom r s) : s.head.pred = r.head.pred ∧ s.head.terms.length = r.head.terms.length := by
  obtain ⟨M, g, h1, _⟩ := h
  exact h1.1
theorem c_has (pr ar : Nat) (rs : List (List ByteArray)) (t : List ByteArray) (a : Option Addr) (n c : Nat) (w : World) (h : RowsV w (pr + 1) pr ar rs) (hk : RelOk ar rs) (ht : StrsAt w a n t) : Calls Tryz.prog 13 #[.pointer (some ⟨pr, 0, none⟩), .slice a n c] w fun e w' => e = .returned (.bool (decide (t ∈ rs))) ∧ w' = w := by
  refine (c_hasR _ pr ar rs t a n c w h hk.up (by have := hk.few; omega) ht).mono ?_
  rintro e w' ⟨rfl, hw⟩
  refine ⟨ret_bool ?_, hw⟩
  rw [Bool.eq_iff_iff, found_iff hk.up]
  simp
end Go.Proofs.YtpgbenijjodoeaaGreat
