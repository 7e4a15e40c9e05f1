/- The walk of the join's match, for rules whose literals are all positive atoms. -/
import Derived.Test.YtpgbenijjodoeaaGreatG39
import Derived.Test.YtpgbenijjodoeaaGreatG40
namespace Go.Proofs.YtpgbenijjodoeaaGreat
open Go.ChangeShapes Go.WideShapes Go.ChangeAt Go.RowKit
open K (Term Atom Rule TermsAt LitsAt RuleV termAt litAt)
set_option linter.unusedSimpArgs false
theorem info_ints : (Tryz.prog.info? 58).map (fun i => (i.zero, i.size, i.bytes)) = some (some (.slice none 0 0), 1, 24) := by kernel_rfl
theorem info_tests : (Tryz.prog.info? 171).map (fun i => (i.zero, i.size, i.bytes)) = some (some (.slice none 0 0), 1, 24) := by kernel_rfl
abbrev lRows (names : List ByteArray) (f : RelM) (l : K.Lit) : List (List ByteArray) := laidRows names l.atom.terms (rowsIn f l.atom.pred)
def TabIs (names : List ByteArray) (f : RelM) (l : K.Lit) (t : JT) : Prop := t.vars = tVars names l.atom.terms ∧ ∀ x, x ∈ t.rows ↔ x ∈ lRows names f l
structure TabsOk (names : List ByteArray) (f : RelM) (ls : List K.Lit) (ts : List JT) : Prop where
  fro : ∀ t ∈ ts, t.vars ≠ [] ∧ ∃ l ∈ ls, TabIs names f l t
  has : ∀ l ∈ ls, lRows names f l ≠ [] ∧ (tVars names l.atom.terms ≠ [] → ∃ t ∈ ts, TabIs names f l t)
/-- A matcher's box, new. -/
theorem mat_new {w3 w4 w5 : World} {av : Option Addr} {n cv : Nat} (h : w4 = w3.alloc (.cells #[.slice av n cv, .slice none 0 0, .slice none 0 0, .slice none 0 0] 137)) (e : Ext w4 w5) :
    Ty w5 w3.heap.size 137 ∧ w5.cell? ⟨w3.heap.size, 0, none⟩ = some (.slice av n cv) ∧ (∀ k, k = 1 ∨ k = 2 ∨ k = 3 → w5.cell? ⟨w3.heap.size, k, none⟩ = some (.slice none 0 0)) ∧ ∀ k, w5.frozen? ⟨w3.heap.size, k, none⟩ = false := by
  have hh : w4.heap[w3.heap.size]? = some (.cells #[.slice av n cv, .slice none 0 0, .slice none 0 0, .slice none 0 0] 137 (0, 0)) := by
    rw [h]
    exact heap_alloc_new w3 _
  have hl : w3.heap.size < w4.heap.size := (Array.getElem?_eq_some_iff.1 hh).1
  have hh5 := (e.block _ hl).trans hh
  refine ⟨⟨_, _, hh5⟩, by simp [World.cell?, hh5], fun k hk => ?_, fun k => by simp [World.frozen?, hh5]⟩
  rcases hk with rfl | rfl | rfl <;> simp [World.cell?, hh5]
theorem mat_mid {w3 w5 w7 : World} {av : Option Addr} {n cv : Nat} {x : Value} (h1 : Ty w5 w3.heap.size 137) (h2 : w5.cell? ⟨w3.heap.size, 0, none⟩ = some (.slice av n cv)) (h3 : ∀ k, k = 1 ∨ k = 2 ∨ k = 3 → w5.cell? ⟨w3.heap.size, k, none⟩ = some (.slice none 0 0)) (h4 : ∀ k, w5.frozen? ⟨w3.heap.size, k, none⟩ = false) (e : Ext (w5.setCell ⟨w3.heap.size, 2, none⟩ x) w7) :
    w7.cell? ⟨w3.heap.size, 0, none⟩ = some (.slice av n cv) ∧ w7.cell? ⟨w3.heap.size, 3, none⟩ = some (.slice none 0 0) ∧ w7.frozen? ⟨w3.heap.size, 3, none⟩ = false := by
  have hl : w3.heap.size < (w5.setCell ⟨w3.heap.size, 2, none⟩ x).heap.size := by simpa using h1.lt
  refine ⟨keep e ?_, keep e ?_, (e.frozen (p := ⟨w3.heap.size, 3, none⟩) hl).trans (by rw [World.frozen?_setCell]; exact h4 3)⟩
  · rw [World.cell?_setCell_other _ _ _ _ (by simp)]
    exact h2
  · rw [World.cell?_setCell_other _ _ _ _ (by simp)]
    exact h3 3 (by simp)
theorem rule_mid {w3 w4 w5 w7 : World} {p : Nat} {av : Option Addr} {n cv : Nat} {x v : Value} (hp : p < w3.heap.size) (h : w3.cell? ⟨p, 2, none⟩ = some v) (h4 : w4 = w3.alloc (.cells #[.slice av n cv, .slice none 0 0, .slice none 0 0, .slice none 0 0] 137)) (e5 : Ext w4 w5) (e7 : Ext (w5.setCell ⟨w3.heap.size, 2, none⟩ x) w7) : w7.cell? ⟨p, 2, none⟩ = some v ∧ ¬ w3.heap.size = p := by
  refine ⟨keep e7 ?_, by omega⟩
  rw [World.cell?_setCell_other _ _ _ _ (by intro e; injection e with e; omega)]
  refine keep e5 ?_
  rw [h4]
  exact keep (ext_alloc (Below.refl _ _) _) h
theorem TabsOk.nil (names : List ByteArray) (f : RelM) : TabsOk names f [] [] := ⟨by simp, by simp⟩
theorem TabsOk.none {names : List ByteArray} {f : RelM} {ls : List K.Lit} {ts : List JT} {l : K.Lit} (h : TabsOk names f ls ts) (h1 : lRows names f l ≠ []) (h2 : tVars names l.atom.terms = []) : TabsOk names f (ls ++ [l]) ts :=
  ⟨fun t ht => ⟨(h.fro t ht).1, by obtain ⟨l', q1, q2⟩ := (h.fro t ht).2; exact ⟨l', by simp [q1], q2⟩⟩, fun l' hl => by
    rcases List.mem_append.1 hl with q | q
    · exact h.has l' q
    · rw [List.mem_singleton.1 q]
      exact ⟨h1, fun e => absurd h2 e⟩⟩
theorem TabsOk.one {names : List ByteArray} {f : RelM} {ls : List K.Lit} {ts : List JT} {l : K.Lit} {t : JT} (h : TabsOk names f ls ts) (h1 : lRows names f l ≠ []) (h2 : t.vars ≠ []) (h3 : TabIs names f l t) : TabsOk names f (ls ++ [l]) (ts ++ [t]) :=
  ⟨fun t' ht => by
    rcases List.mem_append.1 ht with q | q
    · exact ⟨(h.fro t' q).1, by obtain ⟨l', q1, q2⟩ := (h.fro t' q).2; exact ⟨l', by simp [q1], q2⟩⟩
    · rw [List.mem_singleton.1 q]
      exact ⟨h2, l, by simp, h3⟩, fun l' hl => by
    rcases List.mem_append.1 hl with q | q
    · obtain ⟨a, b⟩ := h.has l' q
      exact ⟨a, fun e => by obtain ⟨t', q1, q2⟩ := b e; exact ⟨t', by simp [q1], q2⟩⟩
    · rw [List.mem_singleton.1 q]
      exact ⟨h1, fun _ => ⟨t, by simp, h3⟩⟩⟩
def BasesAt (w : World) (a : Option Addr) (n bb : Nat) : Prop := ∀ i, i < n → ∃ b o, a = some ⟨b, o, none⟩ ∧ w.cell? ⟨b, o + i, none⟩ = some (.pointer (some ⟨bb, 0, none⟩))
theorem BasesAt.keep {w w' : World} (e : Ext w w') {a : Option Addr} {n bb : Nat} (h : BasesAt w a n bb) : BasesAt w' a n bb := fun i hi => by
  obtain ⟨b, o, h1, h2⟩ := h i hi
  exact ⟨b, o, h1, YtpgbenijjodoeaaGreat.keep e h2⟩
theorem made_nil (n : Nat) : (madeCells (Value.slice none 0 0).cells (n * 1)).toList = List.replicate n (.slice none 0 0) := by
  rw [Nat.mul_one]
  apply List.ext_getElem
  · simp [madeCells]
  · intro i h1 h2
    simp [madeCells, Value.cells, Nat.mod_one]
theorem mk_rows (W : World) (n : Nat) (hn : n ≤ 1000000) : ∃ wm, (Instr.makeSlice 134 (.int .i64 (n : Int)) (.int .i64 (n : Int))).run Tryz.prog W = .ok (.slice (some ⟨W.heap.size, 0, none⟩) n n) wm ∧ wm.ownsRow W.heap.size 58 1 (.slice (some ⟨W.heap.size, 0, none⟩) n n) n (List.replicate n (.slice none 0 0)) ∧ Ext W wm := by
  obtain ⟨i0, hi, hz0, hz1, hz2⟩ := info_parts info_ints
  obtain ⟨wm, h1, h2, h3⟩ := run_make_full (P := Tryz.prog) W W.heap.size 134 58 i0 (.slice none 0 0) 1 Tryz.underlying134 hi hz0 hz1 .i64 .i64 n (by rw [hz2]; omega) (by unfold maxLen; omega) (Nat.le_refl _)
  rw [made_nil] at h2
  exact ⟨wm, h1, h2, h3.os, h3.tape, h3.output, h3.size, fun i hi => h3.block i hi (by simp)⟩
theorem mk_tests (W : World) (n : Nat) (hn : n ≤ 1000001) : ∃ wm, (Instr.makeSlice 135 (.int .i64 (n : Int)) (.int .i64 (n : Int))).run Tryz.prog W = .ok (.slice (some ⟨W.heap.size, 0, none⟩) n n) wm ∧ wm.ownsRow W.heap.size 171 1 (.slice (some ⟨W.heap.size, 0, none⟩) n n) n (List.replicate n (.slice none 0 0)) ∧ Ext W wm := by
  obtain ⟨i0, hi, hz0, hz1, hz2⟩ := info_parts info_tests
  obtain ⟨wm, h1, h2, h3⟩ := run_make_full (P := Tryz.prog) W W.heap.size 135 171 i0 (.slice none 0 0) 1 Tryz.underlying135 hi hz0 hz1 .i64 .i64 n (by rw [hz2]; omega) (by unfold maxLen; omega) (Nat.le_refl _)
  rw [made_nil] at h2
  exact ⟨wm, h1, h2, h3.os, h3.tape, h3.output, h3.size, fun i hi => h3.block i hi (by simp)⟩
/-- The empty lists that were made. -/
theorem lists_made {w : World} {C : Nat → Prop} {B0 b0 ga n size : Nat} {et rt : TypeId} (h : w.ownsRow b0 rt 1 (.slice (some ⟨ga, 0, none⟩) n n) n (List.replicate n (.slice none 0 0))) (hC : C ga) : ListsAt w C B0 ga n et rt size (fun _ => []) (fun _ => 0) :=
  ⟨hC, own_ty h rfl, fun _ => .slice none 0 0, fun v hv => ⟨by
    have := h.cells (g := ga) rfl v (.slice none 0 0) (by rw [List.getElem?_replicate, if_pos hv])
    rwa [Addr.add_lit, Nat.zero_add] at this, h.frozenAt _, World.ownsRow_nil _ _ _ _, fun b e => by cases e⟩, fun v v' _ _ _ b e => by cases e⟩
/-- The tries stand apart from the matcher's lists. -/
def TriSt (w : World) (C : Nat → Prop) (B0 : Nat) (ts : List JT) (pts : List Nat) : Prop := ∀ (i : Nat) (t : JT) (pt : Nat), ts[i]? = some t → pts[i]? = some pt → ∃ s d, B0 ≤ s ∧ d ≤ w.heap.size ∧ Stat w s d (fun W => TrieV W pt t.vars.length t.rows) ∧ ∀ b, C b → b < s ∨ d ≤ b
theorem TriSt.ext {w w' : World} {C : Nat → Prop} {B0 : Nat} {ts : List JT} {pts : List Nat} (h : TriSt w C B0 ts pts) (e : Ext w w') : TriSt w' C B0 ts pts := fun i t pt h1 h2 => by
  obtain ⟨s, d, q1, q2, q3, q4⟩ := h i t pt h1 h2
  exact ⟨s, d, q1, Nat.le_trans q2 e.size, q3.move (T := fun _ => False) ((ButS.refl _ _).ext e) (fun _ q => q.elim), q4⟩
theorem TriSt.mv {w w' : World} {C C' : Nat → Prop} {B0 : Nat} {ts : List JT} {pts : List Nat} (h : TriSt w C B0 ts pts) (m : MatMv C C' w w') : TriSt w' C' B0 ts pts := fun i t pt h1 h2 => by
  obtain ⟨s, d, q1, q2, q3, q4⟩ := h i t pt h1 h2
  refine ⟨s, d, q1, Nat.le_trans q2 m.1.size, q3.move m.1 q4, fun b hb => ?_⟩
  rcases m.2 b hb with q | q
  · exact q4 b q
  · exact .inr (Nat.le_trans q2 q)
theorem TriSt.snoc {w : World} {C : Nat → Prop} {B0 : Nat} {ts : List JT} {pts : List Nat} (h : TriSt w C B0 ts pts) (hl : pts.length = ts.length) {t : JT} {pt s d : Nat} (q1 : B0 ≤ s) (q2 : d ≤ w.heap.size) (q3 : Stat w s d (fun W => TrieV W pt t.vars.length t.rows)) (q4 : ∀ b, C b → b < s ∨ d ≤ b) : TriSt w C B0 (ts ++ [t]) (pts ++ [pt]) := fun i t' pt' h1 h2 => by
  rcases Nat.lt_or_ge i ts.length with hi | hi
  · rw [List.getElem?_append_left hi] at h1
    rw [List.getElem?_append_left (by omega)] at h2
    exact h i t' pt' h1 h2
  · have hl1 := (List.getElem?_eq_some_iff.1 h1).1
    rw [List.length_append, List.length_singleton] at hl1
    obtain rfl : i = ts.length := by omega
    rw [List.getElem?_append_right (Nat.le_refl _), Nat.sub_self] at h1
    rw [← hl, List.getElem?_append_right (Nat.le_refl _), Nat.sub_self] at h2
    cases h1
    cases h2
    exact ⟨s, d, q1, q2, q3, q4⟩
theorem mat_start {w3 w4 w5 w7 W : World} {B0 : Nat} {av : Option Addr} {n cv : Nat} (hB : B0 ≤ w3.heap.size) (h4 : w4 = w3.alloc (.cells #[.slice av n cv, .slice none 0 0, .slice none 0 0, .slice none 0 0] 137)) (s4 : w4.heap.size = w3.heap.size + 1) (e5 : Ext w4 w5) (o5 : w5.ownsRow w4.heap.size 58 1 (.slice (some ⟨w4.heap.size, 0, none⟩) n n) n (List.replicate n (.slice none 0 0))) (e7 : Ext (w5.setCell ⟨w3.heap.size, 2, none⟩ (.slice (some ⟨w3.heap.size + 1, 0, none⟩) n n)) w7) (o7 : w7.ownsRow (w5.setCell ⟨w3.heap.size, 2, none⟩ (.slice (some ⟨w3.heap.size + 1, 0, none⟩) n n)).heap.size 171 1 (.slice (some ⟨(w5.setCell ⟨w3.heap.size, 2, none⟩ (.slice (some ⟨w3.heap.size + 1, 0, none⟩) n n)).heap.size, 0, none⟩) (n + 1) (n + 1)) (n + 1) (List.replicate (n + 1) (.slice none 0 0))) (hW : W = w7.setCell ⟨w3.heap.size, 3, none⟩ (.slice (some ⟨w5.heap.size, 0, none⟩) (n + 1) (n + 1))) :
    ∃ C0, MatB W C0 B0 w3.heap.size av n cv (fun _ => []) [] (fun _ => []) ∧ (∀ b, C0 b → w3.heap.size ≤ b) ∧ Ext w3 W := by
  obtain ⟨F5, f50, f52, f53⟩ := mat_new h4 e5
  have hz5 : (w5.setCell ⟨w3.heap.size, 2, none⟩ (.slice (some ⟨w3.heap.size + 1, 0, none⟩) n n)).heap.size = w5.heap.size := by simp
  rw [hz5] at o7
  have z45 := e5.size
  have z7 : w5.heap.size ≤ w7.heap.size := by have := e7.size; rw [hz5] at this; exact this
  have B5 : ButS (fun b => b = w3.heap.size) w5 (w5.setCell ⟨w3.heap.size, 2, none⟩ (.slice (some ⟨w3.heap.size + 1, 0, none⟩) n n)) := (ButS.refl (fun b => b = w3.heap.size) w5).set (.inl rfl) _ _
  have BW : ButS (fun b => b = w3.heap.size) w7 W := by rw [hW]; exact (ButS.refl (fun b => b = w3.heap.size) w7).set (.inl rfl) _ _
  have g2 : (w5.setCell ⟨w3.heap.size, 2, none⟩ (.slice (some ⟨w3.heap.size + 1, 0, none⟩) n n)).cell? ⟨w3.heap.size, 2, none⟩ = some (.slice (some ⟨w3.heap.size + 1, 0, none⟩) n n) := World.cell?_setCell_same _ _ _ (f52 2 (by simp))
  have g1 : (w5.setCell ⟨w3.heap.size, 2, none⟩ (.slice (some ⟨w3.heap.size + 1, 0, none⟩) n n)).cell? ⟨w3.heap.size, 1, none⟩ = some (.slice none 0 0) := by
    rw [World.cell?_setCell_other _ _ _ _ (by simp)]
    exact f52 1 (by simp)
  obtain ⟨F70, F73, f73⟩ := mat_mid F5 f50 f52 f53 e7
  have oW : ∀ k u, k ≠ 3 → w7.cell? ⟨w3.heap.size, k, none⟩ = some u → W.cell? ⟨w3.heap.size, k, none⟩ = some u := fun k u hk hu => by
    rw [hW, World.cell?_setCell_other _ _ _ _ (by intro e; injection e with _ e; exact hk e.symm)]
    exact hu
  have t5 : Ty (w5.setCell ⟨w3.heap.size, 2, none⟩ (.slice (some ⟨w3.heap.size + 1, 0, none⟩) n n)) w3.heap.size 137 := by
    obtain ⟨cs, x, q⟩ := F5
    obtain ⟨cs', q'⟩ := typ_setCell q 2 (.slice (some ⟨w3.heap.size + 1, 0, none⟩) n n)
    exact ⟨cs', x, q'⟩
  have t7 := t5.ext e7
  have hl5 : w3.heap.size < w5.heap.size := by omega
  have o5' : w7.ownsRow w4.heap.size 58 1 (.slice (some ⟨w4.heap.size, 0, none⟩) n n) n (List.replicate n (.slice none 0 0)) := up_ext (B5.own o5 (fun b e q => by have e1 : some w4.heap.size = some b := e; cases e1; omega)) e7
  have ow5 := BW.own o5' (fun b e q => by have e1 : some w4.heap.size = some b := e; cases e1; omega)
  have ow7 := BW.own o7 (fun b e q => by have e1 : some w5.heap.size = some b := e; cases e1; omega)
  refine ⟨fun b => b = w3.heap.size ∨ b = w4.heap.size ∨ b = w5.heap.size, ⟨fun b hb => ?_, .inl rfl, ?_, oW 0 _ (by decide) F70, ⟨_, oW 1 _ (by decide) (keep e7 g1), ?_, World.ownsRow_nil _ _ _ _, fun b e => by cases e⟩, ⟨w4.heap.size, n, ?_, lists_made ow5 (.inr (.inl rfl))⟩, w5.heap.size, n + 1, ?_, lists_made ow7 (.inr (.inr rfl))⟩, fun b hb => ?_, ?_⟩
  · have := ow5.lt _ rfl
    have := ow7.lt _ rfl
    have := BW.size
    rcases hb with rfl | rfl | rfl <;> omega
  · obtain ⟨cs, x, q⟩ := t7
    obtain ⟨cs', q'⟩ := typ_setCell q 3 (.slice (some ⟨w5.heap.size, 0, none⟩) (n + 1) (n + 1))
    rw [hW]
    exact ⟨cs', x, q'⟩
  · rw [hW, World.frozen?_setCell]
    exact (e7.frozen (p := ⟨w3.heap.size, 1, none⟩) t5.lt).trans (by rw [World.frozen?_setCell]; exact f53 1)
  · rw [s4]
    exact oW 2 _ (by decide) (keep e7 g2)
  · rw [hW]
    exact World.cell?_setCell_same _ _ _ F73
  · rcases hb with rfl | rfl | rfl <;> omega
  · have e4 : Ext w3 w4 := by rw [h4]; exact ext_alloc (Below.refl _ _) _
    have e35 : Ext w3 (w5.setCell ⟨w3.heap.size, 2, none⟩ (.slice (some ⟨w3.heap.size + 1, 0, none⟩) n n)) := ext_of_but (ext_trans e4 e5) B5 (fun b hb e => by omega)
    exact ext_of_but (ext_trans e35 e7) BW (fun b hb e => by omega)
theorem mat_done {w : World} {C : Nat → Prop} {B0 pm : Nat} {an : Option Addr} {n cn : Nat} {ts : List JT} {pts : List Nat} (h : MatB w C B0 pm an n cn (atv ts) pts (fun _ => [])) (htr : TriSt w C B0 ts pts) (hl : pts.length = ts.length) (hn : n ≤ 1000000) (htl : ts.length ≤ 1000000) (hok : ∀ t ∈ ts, t.Ok n ∧ t.vars.length ≤ 64 ∧ t.rows.length ≤ 1000000) (hall : ∀ v, v < n → ∃ t ∈ ts, v ∈ t.vars) : MatV w (fun b => b < B0) pm n ts pts (fun _ _ => true) := by
  have far : ∀ W, ButS (fun b => b < B0) w W → ∀ b, C b → ¬ b < B0 := fun W _ b hb q => by have := (h.low b hb).1; omega
  obtain ⟨vT, t1, _, t3, t4⟩ := h.tries
  obtain ⟨aT, cT, e9, _⟩ := own_form t3
  subst e9
  obtain ⟨ga, ca, a1, a2⟩ := h.at_
  obtain ⟨gt, ct, b1, b2⟩ := h.tests
  obtain ⟨fv, f1, _⟩ := a2.each
  obtain ⟨fw, g1, _⟩ := b2.each
  have hp : ¬ pm < B0 := far w (ButS.refl _ _) pm h.cpm
  have hga : ¬ ga < B0 := far w (ButS.refl _ _) ga a2.cga
  have hgt : ¬ gt < B0 := far w (ButS.refl _ _) gt b2.cga
  have hfv : ∀ v, ∃ b c, v < n → fv v = .slice (some ⟨b, 0, none⟩) (atv ts v).length c := fun v => by
    by_cases hv : v < n
    · obtain ⟨t, ht, hvt⟩ := hall v hv
      obtain ⟨i, hi⟩ := List.mem_iff_getElem?.1 ht
      have hpos : 0 < (atv ts v).length := List.length_pos_of_mem ((atv_iff ts v i).2 ⟨t, hi, hvt⟩)
      obtain ⟨g, c, e, _⟩ := own_formS (f1 v hv).2.2.1 hpos
      exact ⟨g, c, fun _ => e⟩
    · exact ⟨0, 0, fun q => absurd q hv⟩
  refine ⟨fun t ht => (hok t ht).1, fun t ht => (hok t ht).2, hall, ⟨hn, htl⟩, hl, ⟨an, cn, fun W b => b.cell hp h.c0⟩, ⟨aT, cT, fun W b => ⟨?_, fun i pt hi => ?_, fun i t pt h1 h2 => ?_⟩⟩, ⟨ga, ca, fun v => Classical.choose (hfv v), fun v => Classical.choose (Classical.choose_spec (hfv v)), fun W b => ⟨b.cell hp a1, fun v hv => ?_⟩⟩, ⟨gt, ct, fun W b => ⟨b.cell hp b1, fun v hv => ?_⟩⟩⟩
  · rw [← hl]
    exact b.cell hp t1
  · have hlt := (List.getElem?_eq_some_iff.1 hi).1
    obtain ⟨g, c, e, _⟩ := own_formS t3 (by omega)
    cases e
    refine ⟨g, 0, rfl, ?_⟩
    have h4 := t3.cells (g := g) rfl i (ptrV pt) (by rw [List.getElem?_map, hi]; rfl)
    rw [Addr.add_lit] at h4
    exact b.cell (far W b g (t4 g rfl)) h4
  · obtain ⟨s, d, q1, q2, q3, q4⟩ := htr i t pt h1 h2
    exact q3 W (b.mono fun x _ hx => .inl (by omega))
  · have e := Classical.choose_spec (Classical.choose_spec (hfv v)) hv
    obtain ⟨x1, x2, x3, x4⟩ := f1 v hv
    refine ⟨by rw [← e]; exact b.cell hga x1, fun j c hj => ?_⟩
    rw [e] at x3 x4
    have h4 := x3.cells (g := Classical.choose (hfv v)) rfl j (numV c) (by rw [List.getElem?_map, hj]; rfl)
    rw [Addr.add_lit, Nat.zero_add] at h4
    exact b.cell (far W b _ (x4 _ rfl)) h4
  · obtain ⟨x1, x2, x3, x4⟩ := g1 v (by omega)
    obtain ⟨a, c, e, _⟩ := own_form x3
    refine ⟨a, 0, c, by omega, ?_, fun x ar cr _ _ => ⟨[], rfl, fun j q hj => by simp at hj, rfl⟩⟩
    rw [e] at x1
    exact b.cell hgt x1
theorem tab_new (w : World) : Ty (w.alloc (.cells #[.slice none 0 0, .pointer none] 139)) w.heap.size 139 ∧ (w.alloc (.cells #[.slice none 0 0, .pointer none] 139)).cell? ⟨w.heap.size, 0, none⟩ = some (.slice none 0 0) ∧ (w.alloc (.cells #[.slice none 0 0, .pointer none] 139)).cell? ⟨w.heap.size, 1, none⟩ = some (.pointer none) ∧ (w.alloc (.cells #[.slice none 0 0, .pointer none] 139)).frozen? ⟨w.heap.size, 0, none⟩ = false ∧ (w.alloc (.cells #[.slice none 0 0, .pointer none] 139)).frozen? ⟨w.heap.size, 1, none⟩ = false := by
  have hh := heap_alloc_new w (.cells #[.slice none 0 0, .pointer none] 139)
  generalize w.alloc (.cells #[.slice none 0 0, .pointer none] 139) = W at hh ⊢
  exact ⟨⟨_, _, hh⟩, by simp [World.cell?, hh], by simp [World.cell?, hh], by simp [World.frozen?, hh], by simp [World.frozen?, hh]⟩
/-- A table laid in its box. -/
structure TabSt (W2 : World) (q9 : Nat) (av : Option Addr) (m cv pr : Nat) (vl : List Value) (rs : List (List ByteArray)) (W : World) : Prop where
  ext : Ext W2 W
  c0 : W.cell? ⟨q9, 0, none⟩ = some (.slice av m cv)
  c1 : W.cell? ⟨q9, 1, none⟩ = some (.pointer (some ⟨pr, 0, none⟩))
  own : W.ownsRow W2.heap.size 3 1 (.slice av m cv) m vl
  rows : RowsV W (pr + 1) pr m rs
  low : W2.heap.size ≤ pr
theorem tab_store {W2 w6 : World} {q9 : Nat} {av : Option Addr} {m cv pr : Nat} {vl : List Value} {rs : List (List ByteArray)} (TQ : Ty w6 q9 139) (c0 : w6.cell? ⟨q9, 0, none⟩ = some (.slice none 0 0)) (c1 : w6.cell? ⟨q9, 1, none⟩ = some (.pointer none)) (e : Ext W2 w6) (ow : w6.ownsRow W2.heap.size 3 1 (.slice av m cv) m vl) (rv : RowsV w6 (pr + 1) pr m rs) (hpr : W2.heap.size ≤ pr) (hq : W2.heap.size ≤ q9) : TabSt W2 q9 av m cv pr vl rs ((w6.setCell ⟨q9, 0, none⟩ (.slice av m cv)).setCell ⟨q9, 1, none⟩ (.pointer (some ⟨pr, 0, none⟩))) := by
  have BS : ButS (fun b => b = q9) w6 ((w6.setCell ⟨q9, 0, none⟩ (.slice av m cv)).setCell ⟨q9, 1, none⟩ (.pointer (some ⟨pr, 0, none⟩))) := ((ButS.refl (fun b => b = q9) w6).set (.inl rfl) _ _).set (.inl rfl) _ _
  refine ⟨ext_of_but e BS (fun b hb q => by omega), ?_, ?_, BS.own ow (fun b e q => by subst q; exact (own_ty ow e).ne TQ (by decide) rfl), (rv.but BS (fun q => ?_) (fun g hg q => by subst q; exact (rv.item_ty hg).1.ne TQ (by decide) rfl) (fun b hb ht => by subst hb; exact ht.ne TQ (by decide) rfl)).1, hpr⟩
  · rw [World.cell?_setCell_other _ _ _ _ (by simp)]
    exact World.cell?_setCell_same _ _ _ c0
  · exact World.cell?_setCell_same _ _ _ ((World.cell?_setCell_other _ _ _ _ (by simp)).trans c1)
  · have h1 := rv.c0
    subst q
    rw [c0] at h1
    cases h1
theorem check_lit {r : Rule} (h : checkR r = 0) {l : K.Lit} (hl : l ∈ r.body) : litOk l = true := by
  unfold checkR at h
  split at h
  · cases h
  · split at h
    · cases h
    · rename_i h2
      by_cases q : litOk l = true
      · exact q
      · exact absurd (List.any_eq_true.2 ⟨l, hl, by simpa using q⟩) h2
def MatchPost (r : Rule) (f : RelM) (w : World) (e : Ending) (w' : World) : Prop := Ext w w' ∧ ((∃ l ∈ r.body, lRows (varsR r) f l = []) ∧ e = .returned (.pointer none) ∨ ∃ pm ts pts, e = .returned (.pointer (some ⟨pm, 0, none⟩)) ∧ MatV w' (fun b => b < w.heap.size) pm (varsR r).length ts pts (fun _ _ => true) ∧ TabsOk (varsR r) f r.body ts)
set_option maxRecDepth 100000 in
set_option maxHeartbeats 4000000 in
theorem c_matchP (r : Rule) (ah : Option Addr) (nh ch : Nat) (ab : Option Addr) (nb cb : Nat) (lo bb : Nat) (f : RelM) (asl : Option Addr) (csl : Nat) (w : World) (hr : RuleV w r ah nh ch ab nb cb) (hB : BaseV w lo bb f) (hbs : BasesAt w asl nb bb) (hpos : ∀ l ∈ r.body, l.kind = 1) (hchk : checkR r = 0) (hvl : (varsR r).length ≤ 1000000) (hnb : nb ≤ 1000000) :
    Calls Tryz.prog 69 #[.agg #[.string r.head.pred, .slice ah nh ch, .slice ab nb cb], .slice asl nb csl] w (MatchPost r f w) := by
  have HR := Lib.hid hr
  have HB := Lib.hid hB
  have HBS := Lib.hid hbs
  have HPOS := Lib.hid hpos
  have HCHK := Lib.hid hchk
  have HVL := Lib.hid hvl
  have HLB := Lib.hid hr.body.2.1
  obtain ⟨n, hn⟩ : ∃ n, (varsR r).length = n := ⟨_, rfl⟩
  have HN := Lib.hid hn
  rw [hn] at HVL
  obtain ⟨w1, hw1⟩ : ∃ w1, w1 = w.alloc (.cells #[.string r.head.pred, .slice ah nh ch, .slice ab nb cb] 27) := ⟨_, rfl⟩
  have E1 : Hid (Ext w w1) := by show Ext _ _; rw [hw1]; exact ext_alloc (Below.refl _ _) _
  have S1 : Hid (w1.heap.size = w.heap.size + 1) := by show _ = _; rw [hw1]; simp
  have C1 : Hid (w1.cell? ⟨w.heap.size, 0, none⟩ = some (.string r.head.pred) ∧ w1.cell? ⟨w.heap.size, 1, none⟩ = some (.slice ah nh ch) ∧ w1.cell? ⟨w.heap.size, 2, none⟩ = some (.slice ab nb cb)) := by refine ⟨?_, ?_, ?_⟩ <;> (rw [hw1]; go_simp)
  have CK : Hid (Calls Tryz.prog 24 #[.agg #[.string r.head.pred, .slice ah nh ch, .slice ab nb cb]] w1 fun e w' => e = .returned (.int .i64 0) ∧ Ext w1 w') := by
    have := c_check r ah nh ch ab nb cb w1 (HR.out.keep E1.out) hvl
    unfold CheckPost at this
    rw [hchk] at this
    exact this
  have VR : Hid (∀ w2, Ext w1 w2 → Calls Tryz.prog 47 #[.agg #[.string r.head.pred, .slice ah nh ch, .slice ab nb cb]] w2 (VarsPost (varsR r) w2)) := fun w2 e => c_vars r ah nh ch ab nb cb w2 (HR.out.keep (ext_trans E1.out e)) hvl
  clear hr hB hbs hpos hchk hvl
  have hwr := wrapS (show n ≤ 1000000 from HVL.out)
  rw [hw1] at CK
  go_enter Tryz.func69, Tryz.ntmps69
  go_wp2_with (first
    | (go_at_call 24; (with_reducible refine CK.out.mono ?_); rintro e w2 ⟨rfl, e2⟩; rw [← hw1] at e2; have k0 := keep e2 C1.out.1; have k1 := keep e2 C1.out.2.1; have k2 := keep e2 C1.out.2.2)
    | (go_at_call 47; go_loud ((with_reducible refine (VR.out _ e2).mono ?_); rintro e w3 ⟨av, cv, rfl, sv, nv, ov, e3⟩; rw [hn] at sv nv ov; rw [hn]; obtain ⟨w4, hw4⟩ : ∃ w4, w4 = w3.alloc (.cells #[.slice av n cv, .slice none 0 0, .slice none 0 0, .slice none 0 0] 137) := ⟨_, rfl⟩; obtain ⟨w5, hm5, o5, e5⟩ := mk_rows w4 n HVL.out; rw [hw4] at hm5; obtain ⟨F5, f50, f52, f53⟩ := mat_new hw4 e5; have s4 : w4.heap.size = w3.heap.size + 1 := (by simp [hw4]); obtain ⟨w7, hm7, o7, e7⟩ := mk_tests (w5.setCell ⟨w3.heap.size, 2, none⟩ (.slice (some ⟨w3.heap.size + 1, 0, none⟩) n n)) (n + 1) (by have := HVL.out; omega); rw [show ((n + 1 : Nat) : Int) = (n : Int) + 1 from rfl] at hm7; have F50 := f50; have F52 := f52 2 (by simp); have F53 := f53 2; obtain ⟨F70, F73, f73⟩ := mat_mid F5 f50 f52 f53 e7; obtain ⟨K7, hne7⟩ := rule_mid (x := .slice (some ⟨w3.heap.size + 1, 0, none⟩) n n) (by have := E1.out.size; have := S1.out; have := e2.size; have := e3.size; omega) (keep e3 k2) hw4 e5 e7; have K8 := fun v => (World.cell?_setCell_other w7 ⟨w3.heap.size, 3, none⟩ ⟨w.heap.size, 2, none⟩ v (by intro e; injection e with e; exact hne7 e)).trans K7)))
  refine wp_gen (fun W hW => ?_)
  obtain ⟨C0, hM0, hC0, e3W⟩ := mat_start (B0 := w.heap.size) (by have := E1.out.size; have := e2.size; have := e3.size; omega) hw4 s4 e5 o5 e7 o7 hW
  have M0 := Lib.hid hM0
  have HC0 := Lib.hid hC0
  have E3W := Lib.hid e3W
  have EW3 : Hid (Ext w w3) := ext_trans E1.out (ext_trans e2 e3)
  have SV := Lib.hid sv
  obtain ⟨pm, hpm⟩ : ∃ pm, w3.heap.size = pm := ⟨_, rfl⟩
  have HPM := Lib.hid hpm
  rw [hpm] at M0 HC0
  rw [hpm]
  clear hW hM0 hC0 e3W hpm hwr sv nv ov e3 e2 k0 k1 k2 hw4 hm5 o5 e5 F5 f50 f52 f53 s4 hm7 o7 e7 F50 F52 F53 F70 F73 f73 K7 hne7 K8 CK VR
  go_loopw [39] (fun u wj => ∃ k : Nat, k ≤ nb ∧ u = .int .i64 k ∧ ∃ (C' : Nat → Prop) (ts : List JT) (pts : List Nat), MatB wj C' w.heap.size pm av n cv (atv ts) pts (fun _ => []) ∧ (∀ b, C' b → pm ≤ b) ∧ Ext w3 wj ∧ TriSt wj C' w.heap.size ts pts ∧ pts.length = ts.length ∧ ts.length ≤ k ∧ (∀ t ∈ ts, t.Ok n ∧ t.vars.length ≤ 64 ∧ t.rows.length ≤ 1000000) ∧ TabsOk (varsR r) f (r.body.take k) ts) (fun u _ => nb - (intOf u).toNat)
  case atStart =>
    refine ⟨0, by omega, rfl, C0, [], [], ?_, HC0.out, E3W.out, fun i t pt h => by simp at h, rfl, by simp, by simp, ?_⟩
    · have e : atv ([] : List JT) = fun _ => [] := by funext v; rfl
      rw [e]
      exact M0.out
    · rw [List.take_zero]
      exact TabsOk.nil _ _
  case round =>
    obtain ⟨k, hk, rfl, C', ts, pts, hmb, hcc, hE, htr, hpl, htl, hok, hto⟩ := hrel
    have MB := Lib.hid hmb
    have CC := Lib.hid hcc
    have HE := Lib.hid hE
    have TR := Lib.hid htr
    have HOK := Lib.hid hok
    have TO := Lib.hid hto
    clear hmb hcc hE htr hok hto
    by_cases hlt : k < nb
    · have hki : (k : Int) < (nb : Int) := by omega
      have EWR : Hid (Ext w wr) := ext_trans EW3.out HE.out
      obtain ⟨l, bl, off, hx, rfl, al, nl, cl, h0, h1, h2, h3, h4, h5, h6, h7, h8, h9, h10, h11, h12⟩ := (HR.out.body.keep EWR.out).2.at hlt
      have HX := Lib.hid hx
      have hlm := List.mem_of_getElem? hx
      have HTK : Hid (r.body.take (k + 1) = r.body.take k ++ [l]) := take_at hx
      have hk1 : l.kind = 1 := HPOS.out l hlm
      have hkb : (l.kind == 1) = true := by rw [hk1]; rfl
      have hnl := h8.2.1
      have hl64 : l.atom.terms.length ≤ 64 := by
        have q := check_lit HCHK.out hlm
        unfold litOk at q
        rw [if_pos (.inl hk1), Bool.and_eq_true] at q
        exact of_decide_eq_true q.1
      have HTM : Hid (TermsAt wr al nl l.atom.terms) := h8
      obtain ⟨bB, oB, hasl, hcB⟩ := HBS.out k hlt
      subst hasl
      have hcB2 := keep EWR.out hcB
      have hcBo := fun o => keep (ext_alloc (Below.refl _ wr) o) hcB2
      have hpm0 := MB.out.c0
      have LAID : Hid (∀ W, Ext wr W → Calls Tryz.prog 83 #[.agg #[.string l.atom.pred, .slice al nl cl], .pointer (some ⟨bb, 0, none⟩), .slice av n cv] W (LaidP (varsR r) l.atom.terms (rowsIn f l.atom.pred) W)) := fun W hW => c_laid (varsR r) l.atom al nl cl av n cv lo bb f W (HB.out.ext (ext_trans EWR.out hW)) (HTM.out.keep hW) (SV.out.keep (ext_trans HE.out hW)) HVL.out (by omega) (Nat.le_trans (tVars_len (varsR_nodup r) _) hl64)
      have HNL : Hid (nl ≤ 64 ∧ (tVars (varsR r) l.atom.terms).length ≤ 64) := ⟨by omega, Nat.le_trans (tVars_len (varsR_nodup r) _) hl64⟩
      clear h8 h9 h10 h11 h12 hx hnl hl64 hcB
      go_wp2
      obtain ⟨p7, hp7⟩ : ∃ p7, wr.heap.size = p7 := ⟨_, rfl⟩
      have ew2 : Ext wr (wr.alloc (.cells #[.int .i64 1, .string l.atom.pred, .slice al nl cl, .int .i64 l.op, .int .i64 l.left.kind, .string l.left.text, .int .i64 l.right.kind, .string l.right.text] 56)) := ext_alloc (Below.refl _ _) _
      have D1 : (wr.alloc (.cells #[.int .i64 1, .string l.atom.pred, .slice al nl cl, .int .i64 l.op, .int .i64 l.left.kind, .string l.left.text, .int .i64 l.right.kind, .string l.right.text] 56)).cell? ⟨p7, 1, none⟩ = some (.string l.atom.pred) := by rw [← hp7]; go_simp
      have D2 : (wr.alloc (.cells #[.int .i64 1, .string l.atom.pred, .slice al nl cl, .int .i64 l.op, .int .i64 l.left.kind, .string l.left.text, .int .i64 l.right.kind, .string l.right.text] 56)).cell? ⟨p7, 2, none⟩ = some (.slice al nl cl) := by rw [← hp7]; go_simp
      have D3 := keep ew2 hpm0
      generalize wr.alloc (.cells #[.int .i64 1, .string l.atom.pred, .slice al nl cl, .int .i64 l.op, .int .i64 l.left.kind, .string l.left.text, .int .i64 l.right.kind, .string l.right.text] 56) = W2 at ew2 D1 D2 D3 ⊢
      rw [hp7]
      have EW2 := Lib.hid ew2
      have HLM := Lib.hid hlm
      have LAID2 : Hid (∀ W, Ext W2 W → Calls Tryz.prog 83 #[.agg #[.string l.atom.pred, .slice al nl cl], .pointer (some ⟨bb, 0, none⟩), .slice av n cv] W (LaidP (varsR r) l.atom.terms (rowsIn f l.atom.pred) W)) := fun W hW => LAID.out W (ext_trans EW2.out hW)
      have hSS : W2.drew.cell? ⟨p7, 1, none⟩ = some (.string l.atom.pred) ∧ W2.drew.cell? ⟨p7, 2, none⟩ = some (.slice al nl cl) ∧ W2.drew.cell? ⟨pm, 0, none⟩ = some (.slice av n cv) := ⟨D1, D2, D3⟩
      have mixed : Tryz.prog.follows .mixedOrders = true := by kernel_rfl
      clear hp7 ew2 D1 D2 D3 LAID hcB2 hcBo hpm0 hk1 hkb hlm h0 h1 h2 h3 h4 h5 h6 h7
      refine region_last (fun w' => w'.cell? ⟨p7, 1, none⟩ = some (.string l.atom.pred) ∧ w'.cell? ⟨p7, 2, none⟩ = some (.slice al nl cl) ∧ w'.cell? ⟨pm, 0, none⟩ = some (.slice av n cv)) 9 mixed hSS (fun hS0 => ?_)
      refine wpAnyG_take (i := 0) (oi := { dst := some 56, op := Go.Op.fieldAddr 56 (Go.Operand.tmp 7) 1, type := 0, pos := "leap.go:76", after := #[], guard := none }) (v := ?_) rfl (by kernel_rfl) (by kernel_rfl) (by kernel_rfl) (by kernel_rfl) (fun _ _ _ h => h) (Or.inl ⟨by rfl, ?_⟩) (by assumption) ?_
      rotate_left
      focus (intro wS hS; go_simp; try with_reducible rfl)
      try simp only [Act.put, List.setIfInBounds_toArray, List.set_cons_zero, List.set_cons_succ]
      refine wpAnyG_take (i := 1) (oi := { dst := some 57, op := Go.Op.load 24 (Go.Operand.tmp 56), type := 24, pos := "leap.go:76", after := #[{ on := 0, ground := Go.Ground.data }], guard := none }) (v := ?_) rfl (by kernel_rfl) (by kernel_rfl) (by kernel_rfl) (by kernel_rfl) (fun _ _ _ h => h) (Or.inl ⟨by rfl, ?_⟩) (by assumption) ?_
      rotate_left
      focus (intro wS hS; obtain ⟨s1, s2, s3⟩ := hS; go_simp; try with_reducible rfl)
      try simp only [Act.put, List.setIfInBounds_toArray, List.set_cons_zero, List.set_cons_succ]
      refine wpAnyG_take (i := 2) (oi := { dst := some 58, op := Go.Op.move (Go.Operand.tmp 8), type := 35, pos := "leap.go:76", after := #[], guard := none }) (v := ?_) rfl (by kernel_rfl) (by kernel_rfl) (by kernel_rfl) (by kernel_rfl) (fun _ _ _ h => h) (Or.inl ⟨by rfl, ?_⟩) (by assumption) ?_
      rotate_left
      focus (intro wS hS; go_simp; try with_reducible rfl)
      try simp only [Act.put, List.setIfInBounds_toArray, List.set_cons_zero, List.set_cons_succ]
      refine wpAnyG_take (i := 3) (oi := { dst := some 59, op := Go.Op.move (Go.Operand.tmp 5), type := 123, pos := "leap.go:76", after := #[], guard := none }) (v := ?_) rfl (by kernel_rfl) (by kernel_rfl) (by kernel_rfl) (by kernel_rfl) (fun _ _ _ h => h) (Or.inl ⟨by rfl, ?_⟩) (by assumption) ?_
      rotate_left
      focus (intro wS hS; go_simp; try with_reducible rfl)
      try simp only [Act.put, List.setIfInBounds_toArray, List.set_cons_zero, List.set_cons_succ]
      refine wpAnyG_take (i := 4) (oi := { dst := some 60, op := Go.Op.nilCheck (Go.Operand.tmp 59), type := 0, pos := "leap.go:76", after := #[{ on := 3, ground := Go.Ground.data }], guard := none }) (v := ?_) rfl (by kernel_rfl) (by kernel_rfl) (by kernel_rfl) (by kernel_rfl) (fun _ _ _ h => h) (Or.inl ⟨by rfl, ?_⟩) (by assumption) ?_
      rotate_left
      focus (intro wS hS; go_simp; try with_reducible rfl)
      try simp only [Act.put, List.setIfInBounds_toArray, List.set_cons_zero, List.set_cons_succ]
      refine wpAnyG_take (i := 5) (oi := { dst := some 61, op := Go.Op.fieldAddr 137 (Go.Operand.tmp 60) 0, type := 0, pos := "leap.go:76", after := #[{ on := 4, ground := Go.Ground.data }], guard := none }) (v := ?_) rfl (by kernel_rfl) (by kernel_rfl) (by kernel_rfl) (by kernel_rfl) (fun _ _ _ h => h) (Or.inl ⟨by rfl, ?_⟩) (by assumption) ?_
      rotate_left
      focus (intro wS hS; go_simp; try with_reducible rfl)
      try simp only [Act.put, List.setIfInBounds_toArray, List.set_cons_zero, List.set_cons_succ]
      refine wpAnyG_take (i := 6) (oi := { dst := some 62, op := Go.Op.load 46 (Go.Operand.tmp 61), type := 46, pos := "leap.go:76", after := #[{ on := 5, ground := Go.Ground.data }], guard := none }) (v := ?_) rfl (by kernel_rfl) (by kernel_rfl) (by kernel_rfl) (by kernel_rfl) (fun _ _ _ h => h) (Or.inl ⟨by rfl, ?_⟩) (by assumption) ?_
      rotate_left
      focus (intro wS hS; obtain ⟨s1, s2, s3⟩ := hS; go_simp; try with_reducible rfl)
      try simp only [Act.put, List.setIfInBounds_toArray, List.set_cons_zero, List.set_cons_succ]
      refine wpAnyG_two (i := 7) (j := 8) (by kernel_rfl) rfl rfl (fun K hK => ?_) (fun K hK => ?_)
      · go_simp
        go_at_call 83; (with_reducible refine (LAID2.out _ (ext_drew (Below.refl _ _))).mono ?_); rintro e w5 ⟨ax, cx, pr, rfl, ow5, rv5, hpr5, e5⟩
        have hS5 := And.intro (keep e5 hS0.1) (And.intro (keep e5 hS0.2.1) (keep e5 hS0.2.2))
        refine hK.out _ _ (fun hne => ?_) ?_
        · exact hS5
        clear hK K
        try simp only [Act.put, List.setIfInBounds_toArray, List.set_cons_zero, List.set_cons_succ]
        refine wpAnyG_one (i := 8) (by kernel_rfl) rfl (fun K hK => ?_)
        go_simp
        refine hK.out _ _ (fun hne => ?_) ?_
        · exact ⟨keep (ext_alloc (Below.refl _ w5) _) hS5.1, keep (ext_alloc (Below.refl _ w5) _) hS5.2.1, keep (ext_alloc (Below.refl _ w5) _) hS5.2.2⟩
        clear hK K
        try simp only [Act.put, List.setIfInBounds_toArray, List.set_cons_zero, List.set_cons_succ]
        refine wpAnyG_one (i := 9) (by kernel_rfl) rfl (fun K hK => ?_)
        go_simp
        refine hK.out _ _ (fun hne => ?_) ?_
        · exact absurd rfl hne
        clear hK K
        try simp only [Act.put, List.setIfInBounds_toArray, List.set_cons_zero, List.set_cons_succ]
        refine wpAnyG_done (by kernel_rfl) ?_ _
        have TS : TabSt W2 w5.heap.size ax (tVars (varsR r) l.atom.terms).length cx pr ((tVars (varsR r) l.atom.terms).map intN) (lRows (varsR r) f l) (w5.alloc (.cells #[.slice ax (tVars (varsR r) l.atom.terms).length cx, .pointer (some ⟨pr, 0, none⟩)] 139)) := ⟨ext_trans (ext_drew (Below.refl _ _)) (ext_trans e5 (ext_alloc (Below.refl _ _) _)), by go_simp, by go_simp, up_ext ow5 (ext_alloc (Below.refl _ _) _), rv5.ext (ext_alloc (Below.refl _ _) _), hpr5⟩
        go_wp2_with fail
        obtain ⟨WX, hWX⟩ : ∃ WX, WX = w5.alloc (.cells #[.slice ax (tVars (varsR r) l.atom.terms).length cx, .pointer (some ⟨pr, 0, none⟩)] 139) := ⟨_, rfl⟩
        rw [← hWX]
        have TX : TabSt W2 w5.heap.size ax (tVars (varsR r) l.atom.terms).length cx pr ((tVars (varsR r) l.atom.terms).map intN) (lRows (varsR r) f l) WX := by rw [hWX]; exact TS
        have T0 := TX.c0
        have T1 := TX.c1
        have EX : Hid (Ext wr WX) := ext_trans EW2.out TX.ext
        have LEN := Lib.hid (c_lenR (pr + 1) pr _ (lRows (varsR r) f l) WX TX.rows)
        have TXH := Lib.hid TX
        obtain ⟨m, hm⟩ : ∃ m, (tVars (varsR r) l.atom.terms).length = m := ⟨_, rfl⟩
        have HM := Lib.hid hm
        rw [hm] at T0
        obtain ⟨rs, hrs⟩ : ∃ rs, lRows (varsR r) f l = rs := ⟨_, rfl⟩
        have HRS := Lib.hid hrs
        rw [hrs] at LEN TXH
        have ROK : Hid (RelOk (tVars (varsR r) l.atom.terms).length rs) := by
          have := laid_ok (varsR r) l.atom.terms (rowsIn f l.atom.pred) HNL.out.2
          rw [← hrs]
          exact this
        clear hWX TS TX hrs
        by_cases hz : rs = []
        · subst hz
          clear hm
          go_wp2_with (go_at_call 56; (with_reducible refine LEN.out.mono ?_); rintro e w8 ⟨rfl, hw8⟩; obtain rfl := hw8.symm)
          go_returns
          exact ⟨ext_trans EWR.out EX.out, .inl ⟨⟨l, HLM.out, HRS.out⟩, rfl⟩⟩
        · have hlz : (((rs.length : Nat) : Int) == 0) = false := by
            rw [int_zero]
            have := List.length_pos_iff.2 hz
            simp
            intro e
            exact absurd e hz
          have HZ := Lib.hid hz
          clear hz
          by_cases hm0 : m = 0
          · subst hm0
            have P0 : Hid (Calls Tryz.prog 84 #[.pointer (some ⟨pm, 0, none⟩), .agg #[.slice ax 0 cx, .pointer (some ⟨pr, 0, none⟩)]] WX fun e w' => (∃ v, e = .returned v) ∧ Ext WX w') := by
              exact c_put0 C' w.heap.size pm av n cv (atv ts) pts (fun _ => []) ax cx pr WX (MB.out.ext EX.out)
            go_wp2_with (first
              | (go_at_call 56; (with_reducible refine LEN.out.mono ?_); rintro e w8 ⟨rfl, hw8⟩; obtain rfl := hw8.symm)
              | (go_at_call 84; (with_reducible refine P0.out.mono ?_); rintro e w9 ⟨⟨v9, rfl⟩, e9⟩))
            go_roundw
            case rel => exact ⟨k + 1, by omega, by go_num, C', ts, pts, MB.out.ext (ext_trans EX.out e9), CC.out, ext_trans HE.out (ext_trans EX.out e9), TR.out.ext (ext_trans EX.out e9), hpl, by omega, HOK.out, by rw [HTK.out]; exact TO.out.none (by rw [HRS.out]; exact HZ.out) (List.eq_nil_of_length_eq_zero HM.out)⟩
            case measure => simp [intOf]; omega
          · have PT : Hid (Calls Tryz.prog 84 #[.pointer (some ⟨pm, 0, none⟩), .agg #[.slice ax m cx, .pointer (some ⟨pr, 0, none⟩)]] WX (PutPost C' w.heap.size pm av n cv (atv ts) pts (fun _ => []) (tVars (varsR r) l.atom.terms) rs WX)) := by
              have ow := TXH.out.own
              have rv := TXH.out.rows
              have ok := ROK.out
              have h64 := HNL.out.2
              rw [HM.out] at ow rv ok h64
              have z2 := EW2.out.size
              have zw := EWR.out.size
              exact c_put C' w.heap.size pm av n cv (atv ts) pts (fun _ => []) (tVars (varsR r) l.atom.terms) rs ax m cx pr W2.heap.size WX (MB.out.ext EX.out) ow (by omega) h64 (tVars_up _ _) (fun v hv => by have := (tVars_mem.1 hv).1; rw [HN.out] at this; exact this) rv ok (fun b hb => Nat.lt_of_lt_of_le (MB.out.low b hb).2 z2) (by omega) (fun v => Nat.le_trans (atv_len ts v) (by omega)) TXH.out.low (by omega)
            go_wp2_with (first
              | (go_at_call 56; (with_reducible refine LEN.out.mono ?_); rintro e w8 ⟨rfl, hw8⟩; obtain rfl := hw8.symm)
              | (go_at_call 84; (with_reducible refine PT.out.mono ?_); rintro e w9 ⟨⟨v9, rfl⟩, C9, pt, ways, s9, d9, m9, mv9, hw1, hw2, hw3, hs9, hst9, hc9, hd9⟩))
            have REL : Hid (∃ (C' : Nat → Prop) (ts : List JT) (pts : List Nat), MatB w9 C' w.heap.size pm av n cv (atv ts) pts (fun _ => []) ∧ (∀ b, C' b → pm ≤ b) ∧ Ext w3 w9 ∧ TriSt w9 C' w.heap.size ts pts ∧ pts.length = ts.length ∧ ts.length ≤ k + 1 ∧ (∀ t ∈ ts, t.Ok n ∧ t.vars.length ≤ 64 ∧ t.rows.length ≤ 1000000) ∧ TabsOk (varsR r) f (r.body.take (k + 1)) ts) := by
              have hmv : ∀ x, x ∈ ways ↔ x ∈ lRows (varsR r) f l := fun x => by rw [HRS.out]; exact hw2 x
              have hne : ways ≠ [] := fun e => by
                obtain ⟨x, hx⟩ := List.exists_mem_of_ne_nil _ HZ.out
                have := (hw2 x).2 hx
                rw [e] at this
                cases this
              have zw := EWR.out.size
              have zx := EX.out.size
              have h3 : w3.heap.size ≤ wr.heap.size := HE.out.size
              refine ⟨C9, ts ++ [⟨tVars (varsR r) l.atom.terms, ways⟩], pts ++ [pt], ?_, fun b hb => ?_, ?_, ((TR.out.ext EX.out).mv mv9).snoc hpl (by omega) hd9 hst9 hc9, by simp [hpl], by simp; omega, fun t ht => ?_, ?_⟩
              · rw [atv_snoc, ← hpl]
                exact m9
              · rcases mv9.2 b hb with q | q
                · exact CC.out b q
                · have := HPM.out; omega
              · exact ext_of_but (ext_trans HE.out EX.out) mv9.1 (fun b hb q => by have := CC.out b q; have := HPM.out; omega)
              · rcases List.mem_append.1 ht with q | q
                · exact HOK.out t q
                · rw [List.mem_singleton.1 q]
                  refine ⟨⟨tVars_up _ _, fun v hv => ?_, hw1, hne⟩, HNL.out.2, ?_⟩
                  · have := (tVars_mem.1 hv).1
                    rw [HN.out] at this
                    exact this
                  · have := ROK.out.few
                    show ways.length ≤ _
                    omega
              · rw [HTK.out]
                exact TO.out.one (by rw [HRS.out]; exact HZ.out) (fun e => hm0 (by rw [← HM.out]; show (tVars (varsR r) l.atom.terms).length = 0; rw [show tVars (varsR r) l.atom.terms = [] from e]; rfl)) ⟨rfl, hmv⟩
            clear m9 mv9 hw1 hw2 hw3 hs9 hst9 hc9 hd9
            go_roundw
            case rel =>
              obtain ⟨C1, ts1, pts1, r1, r2, r3, r4, r5, r6, r7, r8⟩ := REL.out
              exact ⟨k + 1, by omega, by go_num, C1, ts1, pts1, r1, r2, r3, r4, r5, r6, r7, r8⟩
            case measure => simp [intOf]; omega
      · go_simp
        refine hK.out _ _ (fun hne => ?_) ?_
        · exact ⟨keep (ext_alloc (Below.refl _ W2.drew) _) hS0.1, keep (ext_alloc (Below.refl _ W2.drew) _) hS0.2.1, keep (ext_alloc (Below.refl _ W2.drew) _) hS0.2.2⟩
        clear hK K
        try simp only [Act.put, List.setIfInBounds_toArray, List.set_cons_zero, List.set_cons_succ]
        refine wpAnyG_one (i := 7) (by kernel_rfl) rfl (fun K hK => ?_)
        go_simp
        go_at_call 83; (with_reducible refine (LAID2.out _ (ext_drew (ext_alloc (Below.refl _ _) _))).mono ?_); rintro e w5 ⟨ax, cx, pr, rfl, ow5, rv5, hpr5, e5⟩
        obtain ⟨TP, TP0, TP1, TPf0, TPf1⟩ := tab_new W2
        have TQ := (show Ty (W2.alloc (.cells #[.slice none 0 0, .pointer none] 139)).drew _ _ from TP).ext e5
        have TQ0 := keep e5 (show (W2.alloc (.cells #[.slice none 0 0, .pointer none] 139)).drew.cell? _ = _ from TP0)
        have TQ1 := keep e5 (show (W2.alloc (.cells #[.slice none 0 0, .pointer none] 139)).drew.cell? _ = _ from TP1)
        have TQf0 := frozen_ext e5 (show (W2.alloc (.cells #[.slice none 0 0, .pointer none] 139)).drew.cell? _ = _ from TP0) TPf0
        have TQf1 := frozen_ext e5 (show (W2.alloc (.cells #[.slice none 0 0, .pointer none] 139)).drew.cell? _ = _ from TP1) TPf1
        have eA : Ext W2 w5 := ext_trans (ext_drew (ext_alloc (Below.refl _ W2) _)) e5
        refine hK.out _ _ (fun hne => ?_) ?_
        · exact ⟨keep eA hS0.1, keep eA hS0.2.1, keep eA hS0.2.2⟩
        clear hK K
        try simp only [Act.put, List.setIfInBounds_toArray, List.set_cons_zero, List.set_cons_succ]
        refine wpAnyG_one (i := 9) (by kernel_rfl) rfl (fun K hK => ?_)
        go_simp
        refine hK.out _ _ (fun hne => ?_) ?_
        · exact absurd rfl hne
        clear hK K
        try simp only [Act.put, List.setIfInBounds_toArray, List.set_cons_zero, List.set_cons_succ]
        refine wpAnyG_done (by kernel_rfl) ?_ _
        have TS := tab_store (W2 := W2) (w6 := w5) TQ TQ0 TQ1 eA (own_base ow5 (ext_drew (ext_alloc (Below.refl _ W2) _)).size) rv5 (Nat.le_trans (ext_drew (ext_alloc (Below.refl _ W2) _)).size hpr5) (Below.refl W2.heap.size W2).size
        go_wp2_with fail
        obtain ⟨WX, hWX⟩ : ∃ WX, WX = (w5.setCell ⟨W2.heap.size, 0, none⟩ (.slice ax (tVars (varsR r) l.atom.terms).length cx)).setCell ⟨W2.heap.size, 1, none⟩ (.pointer (some ⟨pr, 0, none⟩)) := ⟨_, rfl⟩
        rw [← hWX]
        have TX : TabSt W2 W2.heap.size ax (tVars (varsR r) l.atom.terms).length cx pr ((tVars (varsR r) l.atom.terms).map intN) (lRows (varsR r) f l) WX := by rw [hWX]; exact TS
        have T0 := TX.c0
        have T1 := TX.c1
        have EX : Hid (Ext wr WX) := ext_trans EW2.out TX.ext
        have LEN := Lib.hid (c_lenR (pr + 1) pr _ (lRows (varsR r) f l) WX TX.rows)
        have TXH := Lib.hid TX
        obtain ⟨m, hm⟩ : ∃ m, (tVars (varsR r) l.atom.terms).length = m := ⟨_, rfl⟩
        have HM := Lib.hid hm
        rw [hm] at T0
        obtain ⟨rs, hrs⟩ : ∃ rs, lRows (varsR r) f l = rs := ⟨_, rfl⟩
        have HRS := Lib.hid hrs
        rw [hrs] at LEN TXH
        have ROK : Hid (RelOk (tVars (varsR r) l.atom.terms).length rs) := by
          have := laid_ok (varsR r) l.atom.terms (rowsIn f l.atom.pred) HNL.out.2
          rw [← hrs]
          exact this
        clear hWX TS TX hrs
        by_cases hz : rs = []
        · subst hz
          clear hm
          go_wp2_with (go_at_call 56; (with_reducible refine LEN.out.mono ?_); rintro e w8 ⟨rfl, hw8⟩; obtain rfl := hw8.symm)
          go_returns
          exact ⟨ext_trans EWR.out EX.out, .inl ⟨⟨l, HLM.out, HRS.out⟩, rfl⟩⟩
        · have hlz : (((rs.length : Nat) : Int) == 0) = false := by
            rw [int_zero]
            have := List.length_pos_iff.2 hz
            simp
            intro e
            exact absurd e hz
          have HZ := Lib.hid hz
          clear hz
          by_cases hm0 : m = 0
          · subst hm0
            have P0 : Hid (Calls Tryz.prog 84 #[.pointer (some ⟨pm, 0, none⟩), .agg #[.slice ax 0 cx, .pointer (some ⟨pr, 0, none⟩)]] WX fun e w' => (∃ v, e = .returned v) ∧ Ext WX w') := by
              exact c_put0 C' w.heap.size pm av n cv (atv ts) pts (fun _ => []) ax cx pr WX (MB.out.ext EX.out)
            go_wp2_with (first
              | (go_at_call 56; (with_reducible refine LEN.out.mono ?_); rintro e w8 ⟨rfl, hw8⟩; obtain rfl := hw8.symm)
              | (go_at_call 84; (with_reducible refine P0.out.mono ?_); rintro e w9 ⟨⟨v9, rfl⟩, e9⟩))
            go_roundw
            case rel => exact ⟨k + 1, by omega, by go_num, C', ts, pts, MB.out.ext (ext_trans EX.out e9), CC.out, ext_trans HE.out (ext_trans EX.out e9), TR.out.ext (ext_trans EX.out e9), hpl, by omega, HOK.out, by rw [HTK.out]; exact TO.out.none (by rw [HRS.out]; exact HZ.out) (List.eq_nil_of_length_eq_zero HM.out)⟩
            case measure => simp [intOf]; omega
          · have PT : Hid (Calls Tryz.prog 84 #[.pointer (some ⟨pm, 0, none⟩), .agg #[.slice ax m cx, .pointer (some ⟨pr, 0, none⟩)]] WX (PutPost C' w.heap.size pm av n cv (atv ts) pts (fun _ => []) (tVars (varsR r) l.atom.terms) rs WX)) := by
              have ow := TXH.out.own
              have rv := TXH.out.rows
              have ok := ROK.out
              have h64 := HNL.out.2
              rw [HM.out] at ow rv ok h64
              have z2 := EW2.out.size
              have zw := EWR.out.size
              exact c_put C' w.heap.size pm av n cv (atv ts) pts (fun _ => []) (tVars (varsR r) l.atom.terms) rs ax m cx pr W2.heap.size WX (MB.out.ext EX.out) ow (by omega) h64 (tVars_up _ _) (fun v hv => by have := (tVars_mem.1 hv).1; rw [HN.out] at this; exact this) rv ok (fun b hb => Nat.lt_of_lt_of_le (MB.out.low b hb).2 z2) (by omega) (fun v => Nat.le_trans (atv_len ts v) (by omega)) TXH.out.low (by omega)
            go_wp2_with (first
              | (go_at_call 56; (with_reducible refine LEN.out.mono ?_); rintro e w8 ⟨rfl, hw8⟩; obtain rfl := hw8.symm)
              | (go_at_call 84; (with_reducible refine PT.out.mono ?_); rintro e w9 ⟨⟨v9, rfl⟩, C9, pt, ways, s9, d9, m9, mv9, hw1, hw2, hw3, hs9, hst9, hc9, hd9⟩))
            have REL : Hid (∃ (C' : Nat → Prop) (ts : List JT) (pts : List Nat), MatB w9 C' w.heap.size pm av n cv (atv ts) pts (fun _ => []) ∧ (∀ b, C' b → pm ≤ b) ∧ Ext w3 w9 ∧ TriSt w9 C' w.heap.size ts pts ∧ pts.length = ts.length ∧ ts.length ≤ k + 1 ∧ (∀ t ∈ ts, t.Ok n ∧ t.vars.length ≤ 64 ∧ t.rows.length ≤ 1000000) ∧ TabsOk (varsR r) f (r.body.take (k + 1)) ts) := by
              have hmv : ∀ x, x ∈ ways ↔ x ∈ lRows (varsR r) f l := fun x => by rw [HRS.out]; exact hw2 x
              have hne : ways ≠ [] := fun e => by
                obtain ⟨x, hx⟩ := List.exists_mem_of_ne_nil _ HZ.out
                have := (hw2 x).2 hx
                rw [e] at this
                cases this
              have zw := EWR.out.size
              have zx := EX.out.size
              have h3 : w3.heap.size ≤ wr.heap.size := HE.out.size
              refine ⟨C9, ts ++ [⟨tVars (varsR r) l.atom.terms, ways⟩], pts ++ [pt], ?_, fun b hb => ?_, ?_, ((TR.out.ext EX.out).mv mv9).snoc hpl (by omega) hd9 hst9 hc9, by simp [hpl], by simp; omega, fun t ht => ?_, ?_⟩
              · rw [atv_snoc, ← hpl]
                exact m9
              · rcases mv9.2 b hb with q | q
                · exact CC.out b q
                · have := HPM.out; omega
              · exact ext_of_but (ext_trans HE.out EX.out) mv9.1 (fun b hb q => by have := CC.out b q; have := HPM.out; omega)
              · rcases List.mem_append.1 ht with q | q
                · exact HOK.out t q
                · rw [List.mem_singleton.1 q]
                  refine ⟨⟨tVars_up _ _, fun v hv => ?_, hw1, hne⟩, HNL.out.2, ?_⟩
                  · have := (tVars_mem.1 hv).1
                    rw [HN.out] at this
                    exact this
                  · have := ROK.out.few
                    show ways.length ≤ _
                    omega
              · rw [HTK.out]
                exact TO.out.one (by rw [HRS.out]; exact HZ.out) (fun e => hm0 (by rw [← HM.out]; show (tVars (varsR r) l.atom.terms).length = 0; rw [show tVars (varsR r) l.atom.terms = [] from e]; rfl)) ⟨rfl, hmv⟩
            clear m9 mv9 hw1 hw2 hw3 hs9 hst9 hc9 hd9
            go_roundw
            case rel =>
              obtain ⟨C1, ts1, pts1, r1, r2, r3, r4, r5, r6, r7, r8⟩ := REL.out
              exact ⟨k + 1, by omega, by go_num, C1, ts1, pts1, r1, r2, r3, r4, r5, r6, r7, r8⟩
            case measure => simp [intOf]; omega
    · obtain rfl : k = nb := by omega
      have hge : ¬ (k : Int) < (k : Int) := by omega
      have hfull : r.body.take k = r.body := List.take_of_length_le (by have := HLB.out; omega)
      rw [hfull] at TO
      go_wp2
      go_returns
      refine ⟨ext_trans EW3.out HE.out, .inr ⟨pm, ts, pts, rfl, ?_, TO.out⟩⟩
      rw [HN.out]
      refine mat_done MB.out TR.out hpl HVL.out (by omega) HOK.out (fun v hv => ?_)
      have hg := List.mem_of_getElem? (gt_at (xs := varsR r) (i := v) (by rw [HN.out]; exact hv))
      obtain ⟨l, hl1, _, hl2⟩ := (varsR_mem r _).1 hg
      have hvm : v ∈ tVars (varsR r) l.atom.terms := tVars_mem.2 ⟨by rw [HN.out]; exact hv, hl2⟩
      obtain ⟨t, ht, hti, _⟩ := (TO.out.has l hl1).2 (List.ne_nil_of_mem hvm)
      exact ⟨t, ht, by rw [hti]; exact hvm⟩
end Go.Proofs.YtpgbenijjodoeaaGreat
