/- The makers of the join's tests. The matcher while it is built: its lists in memory; one entry more in each. -/
import Derived.Test.YtpgbenijjodoeaaGreatG9
import Derived.Test.YtpgbenijjodoeaaGreatG17
import Derived.Test.YtpgbenijjodoeaaGreatG29
import Derived.Test.YtpgbenijjodoeaaGreatG34
namespace Go.Proofs.YtpgbenijjodoeaaGreat
open Go.ChangeShapes Go.WideShapes Go.ChangeAt Go.RowKit
theorem run_store_fn (w : World) (a : Addr) (f : Fn) (c b : Array Value) (m : Mode) : (store a (.func f c b) m).run Tryz.prog w = stored Tryz.prog w a (.func f c b) m := run_store Tryz.prog w a _ m rfl
attribute [local go_sem] run_store_fn
end Go.Proofs.YtpgbenijjodoeaaGreat
namespace Go.Proofs.YtpgbenijjodoeaaGreat
open Go.ChangeShapes Go.WideShapes Go.ChangeAt Go.RowKit
abbrev numV (n : Nat) : Value := .int .i64 (n : Nat)
def updA {α : Type} (f : Nat → α) (k : Nat) (v : α) : Nat → α := fun x => if x = k then v else f x
def testL (l : List (Int × Value)) : List Value := l.flatMap fun x => [.int .i64 x.1, x.2]
/-- Lists under the places of a row: of each its own block, all among C. -/
structure ListsAt (w : World) (C : Nat → Prop) (B0 ga n : Nat) (et rt : TypeId) (size : Nat) (ls : Nat → List Value) (ns : Nat → Nat) : Prop where
  cga : C ga
  ty : Ty w ga rt
  each : ∃ fv : Nat → Value, (∀ v, v < n → w.cell? ⟨ga, v, none⟩ = some (fv v) ∧ w.frozen? ⟨ga, v, none⟩ = false ∧ w.ownsRow B0 et size (fv v) (ns v) (ls v) ∧ ∀ b, (fv v).ownBlock = some b → C b) ∧ ∀ v v', v < n → v' < n → v ≠ v' → ∀ b, (fv v).ownBlock = some b → (fv v').ownBlock ≠ some b
theorem frozen_ext {w w' : World} {b o : Nat} {v : Value} {q : Bool} (e : Ext w w') (h : w.cell? ⟨b, o, none⟩ = some v) (hf : w.frozen? ⟨b, o, none⟩ = q) : w'.frozen? ⟨b, o, none⟩ = q := (e.frozen (p := ⟨b, o, none⟩) (World.block_lt_of_cell? w ⟨b, o, none⟩ h)).trans hf
theorem ListsAt.ext {w w' : World} {C : Nat → Prop} {B0 ga n : Nat} {et rt : TypeId} {size : Nat} {ls : Nat → List Value} {ns : Nat → Nat} (h : ListsAt w C B0 ga n et rt size ls ns) (e : Ext w w') : ListsAt w' C B0 ga n et rt size ls ns := by
  obtain ⟨fv, h1, h2⟩ := h.each
  exact ⟨h.cga, h.ty.ext e, fv, fun v hv => ⟨keep e (h1 v hv).1, frozen_ext e (h1 v hv).1 (h1 v hv).2.1, up_ext (h1 v hv).2.2.1 e, (h1 v hv).2.2.2⟩, h2⟩
theorem ListsAt.mono {w : World} {C C' : Nat → Prop} {B0 ga n : Nat} {et rt : TypeId} {size : Nat} {ls : Nat → List Value} {ns : Nat → Nat} (h : ListsAt w C B0 ga n et rt size ls ns) (hc : ∀ b, C b → C' b) : ListsAt w C' B0 ga n et rt size ls ns := by
  obtain ⟨fv, h1, h2⟩ := h.each
  exact ⟨hc _ h.cga, h.ty, fv, fun v hv => ⟨(h1 v hv).1, (h1 v hv).2.1, (h1 v hv).2.2.1, fun b hb => hc b ((h1 v hv).2.2.2 b hb)⟩, h2⟩
/-- They stand when blocks of other types are written. -/
theorem ListsAt.but {w w' : World} {S C : Nat → Prop} {B0 ga n : Nat} {et rt : TypeId} {size : Nat} {ls : Nat → List Value} {ns : Nat → Nat} (h : ListsAt w C B0 ga n et rt size ls ns) (e : ButS S w w') (hs : ∀ b, S b → ¬ Ty w b et ∧ ¬ Ty w b rt) : ListsAt w' C B0 ga n et rt size ls ns := by
  obtain ⟨fv, h1, h2⟩ := h.each
  have hga : ¬ S ga := fun q => (hs ga q).2 h.ty
  exact ⟨h.cga, h.ty.but e hga, fv, fun v hv => ⟨e.cell hga (h1 v hv).1, frozen_but e hga (World.block_lt_of_cell? w ⟨ga, v, none⟩ (h1 v hv).1) (h1 v hv).2.1, e.own (h1 v hv).2.2.1 (fun b hb q => (hs b q).1 (own_ty (h1 v hv).2.2.1 hb)), (h1 v hv).2.2.2⟩, h2⟩
/-- One of them is gone on with. -/
theorem ListsAt.push {w w6 : World} {C : Nat → Prop} {B0 ga n : Nat} {et rt : TypeId} {size : Nat} {ls : Nat → List Value} {ns : Nat → Nat} (h : ListsAt w C B0 ga n et rt size ls ns) (hne : et ≠ rt) {v : Nat} (hv : v < n) {x : Value} (hx : w.cell? ⟨ga, v, none⟩ = some x) {o : Obj} {g c : Nat} {news : List Value} (own : w6.ownsRow B0 et size (.slice (some ⟨g, 0, none⟩) (ns v + 1) c) (ns v + 1) (ls v ++ news)) (q : (w.alloc o).grownBy w6 x.ownBlock) (hg : x.ownBlock = some g ∨ w.heap.size ≤ g) :
    w6.cell? ⟨ga, v, none⟩ = some x ∧ w6.frozen? ⟨ga, v, none⟩ = false ∧ (∀ b, x.ownBlock = some b → C b ∧ Ty w b et) ∧ ListsAt (w6.setCell ⟨ga, v, none⟩ (.slice (some ⟨g, 0, none⟩) (ns v + 1) c)) (fun b => C b ∨ b = g) B0 ga n et rt size (updA ls v (ls v ++ news)) (updA ns v (ns v + 1)) := by
  obtain ⟨fv, h1, h2⟩ := h.each
  obtain ⟨x1, x2, x3, x4⟩ := h1 v hv
  rw [hx] at x1
  cases x1
  have b6 : ButS (fun b => (fv v).ownBlock = some b) w w6 := ((ButS.refl _ w).alloc o).grown q (fun b e => .inl e)
  have nga : ¬ (fv v).ownBlock = some ga := fun e => (own_ty x3 e).ne h.ty hne rfl
  have c6 := b6.cell nga hx
  have f6 := frozen_but b6 nga h.ty.lt x2
  have tg : Ty w6 g et := own_ty own rfl
  have t6 := h.ty.but b6 nga
  have gne : g ≠ ga := tg.ne t6 hne
  have b7 : ButS (fun b => b = ga) w6 (w6.setCell ⟨ga, v, none⟩ (.slice (some ⟨g, 0, none⟩) (ns v + 1) c)) := (ButS.refl (fun b => b = ga) w6).set (.inl rfl) _ _
  refine ⟨c6, f6, fun b hb => ⟨x4 b hb, own_ty x3 hb⟩, .inl h.cga, ?_, updA fv v (.slice (some ⟨g, 0, none⟩) (ns v + 1) c), fun u hu => ?_, fun u u' hu hu' huu b hb => ?_⟩
  · obtain ⟨cs, y, e⟩ := t6
    obtain ⟨cs', e'⟩ := typ_setCell e v (.slice (some ⟨g, 0, none⟩) (ns v + 1) c)
    exact ⟨cs', y, e'⟩
  · unfold updA
    by_cases huv : u = v
    · subst huv
      simp only [↓reduceIte]
      refine ⟨World.cell?_setCell_same _ _ _ c6, by rw [World.frozen?_setCell]; exact f6, own_set_other own (.inr (fun e => by cases e; exact gne rfl)) _, fun b hb => ?_⟩
      cases hb
      exact .inr rfl
    · simp only [huv, ↓reduceIte]
      obtain ⟨y1, y2, y3, y4⟩ := h1 u hu
      have hl := World.block_lt_of_cell? w ⟨ga, u, none⟩ y1
      refine ⟨?_, ?_, b7.own (b6.own y3 (fun b hb hb2 => h2 u v hu hv huv b hb hb2)) (fun b hb e => by subst e; exact (own_ty y3 hb).ne h.ty hne rfl), fun b hb => .inl (y4 b hb)⟩
      · rw [World.cell?_setCell_other _ _ _ _ (by intro e; injection e with _ e2; exact huv e2.symm)]
        exact b6.cell nga y1
      · rw [World.frozen?_setCell]
        exact frozen_but b6 nga hl y2
  · unfold updA at hb ⊢
    have hgn : ∀ u, u < n → u ≠ v → ∀ b, (fv u).ownBlock = some b → b ≠ g := fun u0 hu0 huv0 b0 hb0 e => by
      subst e
      rcases hg with e | e
      · exact h2 u0 v hu0 hv huv0 b0 hb0 e
      · have := ((h1 u0 hu0).2.2.1.lt b0 hb0).2
        omega
    by_cases huv : u = v
    · subst huv
      rw [if_pos rfl] at hb
      rw [if_neg (fun e => huu e.symm)]
      cases hb
      intro e
      exact hgn u' hu' (fun e => huu e.symm) _ e rfl
    · rw [if_neg huv] at hb
      by_cases huv' : u' = v
      · subst huv'
        rw [if_pos rfl]
        intro e
        cases e
        exact hgn u hu huv _ hb rfl
      · rw [if_neg huv']
        exact h2 u u' hu hu' huu b hb
/-- The matcher at block pm: the numbers of the tries by variable, the tries, the tests by place; C: the blocks of its lists. -/
structure MatB (w : World) (C : Nat → Prop) (B0 pm : Nat) (an : Option Addr) (n cn : Nat) (at_ : Nat → List Nat) (pts : List Nat) (tl : Nat → List (Int × Value)) : Prop where
  low : ∀ b, C b → B0 ≤ b ∧ b < w.heap.size
  cpm : C pm
  ty : Ty w pm 137
  c0 : w.cell? ⟨pm, 0, none⟩ = some (.slice an n cn)
  tries : ∃ v, w.cell? ⟨pm, 1, none⟩ = some v ∧ w.frozen? ⟨pm, 1, none⟩ = false ∧ w.ownsRow B0 151 1 v pts.length (pts.map ptrV) ∧ ∀ b, v.ownBlock = some b → C b
  at_ : ∃ ga ca, w.cell? ⟨pm, 2, none⟩ = some (.slice (some ⟨ga, 0, none⟩) n ca) ∧ ListsAt w C B0 ga n 3 58 1 (fun v => (at_ v).map numV) (fun v => (at_ v).length)
  tests : ∃ gt ct, w.cell? ⟨pm, 3, none⟩ = some (.slice (some ⟨gt, 0, none⟩) (n + 1) ct) ∧ ListsAt w C B0 gt (n + 1) 144 171 2 (fun v => testL (tl v)) (fun v => (tl v).length)
theorem MatB.ext {w w' : World} {C : Nat → Prop} {B0 pm : Nat} {an : Option Addr} {n cn : Nat} {at_ : Nat → List Nat} {pts : List Nat} {tl : Nat → List (Int × Value)} (h : MatB w C B0 pm an n cn at_ pts tl) (e : Ext w w') : MatB w' C B0 pm an n cn at_ pts tl := by
  obtain ⟨v, t1, t2, t3, t4⟩ := h.tries
  obtain ⟨ga, ca, a1, a2⟩ := h.at_
  obtain ⟨gt, ct, b1, b2⟩ := h.tests
  exact ⟨fun b hb => ⟨(h.low b hb).1, Nat.lt_of_lt_of_le (h.low b hb).2 e.size⟩, h.cpm, h.ty.ext e, keep e h.c0, ⟨v, keep e t1, frozen_ext e t1 t2, up_ext t3 e, t4⟩, ⟨ga, ca, keep e a1, a2.ext e⟩, gt, ct, keep e b1, b2.ext e⟩
/-- What a step leaves of the matcher. -/
def MatMv (C C' : Nat → Prop) (w w' : World) : Prop := ButS C w w' ∧ ∀ b, C' b → C b ∨ w.heap.size ≤ b
theorem MatMv.ext {C C' : Nat → Prop} {w w' w2 : World} (h : MatMv C C' w w') (e : Ext w' w2) : MatMv C C' w w2 := ⟨h.1.ext e, h.2⟩
theorem MatMv.pre {C C' : Nat → Prop} {w w1 w2 : World} (e : Ext w w1) (h : MatMv C C' w1 w2) : MatMv C C' w w2 := ⟨((ButS.refl _ w).ext e).trans h.1, fun b hb => (h.2 b hb).imp id (fun q => Nat.le_trans e.size q)⟩
theorem MatMv.trans {C C' C2 : Nat → Prop} {w w' w2 : World} (h : MatMv C C' w w') (k : MatMv C' C2 w' w2) : MatMv C C2 w w2 :=
  ⟨⟨k.1.os.trans h.1.os, k.1.tape.trans h.1.tape, k.1.output.trans h.1.output, Nat.le_trans h.1.size k.1.size, fun b hb hn => (k.1.block b (Nat.lt_of_lt_of_le hb h.1.size) (fun q => (h.2 b q).elim hn (fun q => by omega))).trans (h.1.block b hb hn)⟩, fun b hb => (k.2 b hb).elim (fun q => h.2 b q) (fun q => .inr (Nat.le_trans h.1.size q))⟩
theorem MatMv.refl (C : Nat → Prop) (w : World) : MatMv C C w w := ⟨ButS.refl _ _, fun _ h => .inl h⟩
/-- What the other parts of the matcher are to blocks of one of its kinds. -/
theorem MatB.at_push {w w6 : World} {C : Nat → Prop} {B0 pm : Nat} {an : Option Addr} {n cn : Nat} {at_ : Nat → List Nat} {pts : List Nat} {tl : Nat → List (Int × Value)} (h : MatB w C B0 pm an n cn at_ pts tl) {ga ca v z g c : Nat} {x : Value} {o : Obj} (ha : w.cell? ⟨pm, 2, none⟩ = some (.slice (some ⟨ga, 0, none⟩) n ca)) (hv : v < n) (hx : w.cell? ⟨ga, v, none⟩ = some x)
    (own : w6.ownsRow B0 3 1 (.slice (some ⟨g, 0, none⟩) ((at_ v).length + 1) c) ((at_ v).length + 1) ((at_ v).map numV ++ [numV z])) (q : (w.alloc o).grownBy w6 x.ownBlock) (hg : x.ownBlock = some g ∨ w.heap.size ≤ g) :
    w6.cell? ⟨ga, v, none⟩ = some x ∧ w6.frozen? ⟨ga, v, none⟩ = false ∧ ∃ C', MatB (w6.setCell ⟨ga, v, none⟩ (.slice (some ⟨g, 0, none⟩) ((at_ v).length + 1) c)) C' B0 pm an n cn (updA at_ v (at_ v ++ [z])) pts tl ∧ MatMv C C' w (w6.setCell ⟨ga, v, none⟩ (.slice (some ⟨g, 0, none⟩) ((at_ v).length + 1) c)) := by
  obtain ⟨tv, t1, t2, t3, t4⟩ := h.tries
  obtain ⟨ga', ca', a1, a2⟩ := h.at_
  obtain ⟨gt, ct, b1, b2⟩ := h.tests
  rw [ha] at a1
  cases a1
  obtain ⟨c6, f6, cx, LS⟩ := a2.push (by decide) hv hx own q hg
  have BS : ButS (fun b => x.ownBlock = some b ∨ b = ga) w (w6.setCell ⟨ga, v, none⟩ (.slice (some ⟨g, 0, none⟩) ((at_ v).length + 1) c)) := (((ButS.refl _ w).alloc o).grown q (fun b e => .inl (.inl e))).set (.inl (.inr rfl)) _ _
  have hS : ∀ b, (x.ownBlock = some b ∨ b = ga) → Ty w b 3 ∨ Ty w b 58 := fun b hb => by
    rcases hb with hb | rfl
    · exact .inl (cx b hb).2
    · exact .inr a2.ty
  have nt : ∀ {b t}, Ty w b t → t ≠ 3 → t ≠ 58 → ¬ (x.ownBlock = some b ∨ b = ga) := fun ht n1 n2 q => by
    rcases hS _ q with q | q
    · exact ht.ne q n1 rfl
    · exact ht.ne q n2 rfl
  have npm := nt h.ty (by decide) (by decide)
  have hpm := h.ty.lt
  have gl := (own.lt g rfl).2
  have CC : ∀ b, (x.ownBlock = some b ∨ b = ga) → C b := fun b hb => by
    rcases hb with hb | rfl
    · exact (cx b hb).1
    · exact a2.cga
  refine ⟨c6, f6, fun b => C b ∨ b = g, ⟨fun b hb => ?_, .inl h.cpm, h.ty.but BS npm, BS.cell npm h.c0, ⟨tv, BS.cell npm t1, frozen_but BS npm hpm t2, BS.own t3 (fun b hb => nt (own_ty t3 hb) (by decide) (by decide)), fun b hb => .inl (t4 b hb)⟩, ⟨ga, ca, BS.cell npm ha, ?_⟩, gt, ct, BS.cell npm b1, (b2.but BS (fun b hb => ?_)).mono (fun b hb => .inl hb)⟩, BS.mono (fun b _ hb => CC b hb), fun b hb => ?_⟩
  · rcases hb with hb | rfl
    · exact ⟨(h.low b hb).1, Nat.lt_of_lt_of_le (h.low b hb).2 BS.size⟩
    · exact ⟨(own.lt b rfl).1, by simpa using gl⟩
  · have e1 : (updA (fun v => (at_ v).map numV) v ((at_ v).map numV ++ [numV z])) = fun u => (updA at_ v (at_ v ++ [z]) u).map numV := by
      funext u
      unfold updA
      split
      · rename_i e; subst e; simp
      · rfl
    have e2 : (updA (fun v => (at_ v).length) v ((at_ v).length + 1)) = fun u => (updA at_ v (at_ v ++ [z]) u).length := by
      funext u
      unfold updA
      split
      · rename_i e; subst e; simp
      · rfl
    rw [e1, e2] at LS
    exact LS
  · rcases hS b hb with q | q
    · exact ⟨fun h2 => q.ne h2 (by decide) rfl, fun h2 => q.ne h2 (by decide) rfl⟩
    · exact ⟨fun h2 => q.ne h2 (by decide) rfl, fun h2 => q.ne h2 (by decide) rfl⟩
  · rcases hb with hb | rfl
    · exact .inl hb
    · rcases hg with e | e
      · exact .inl (cx b e).1
      · exact .inr e
theorem MatB.try_push {w w6 : World} {C : Nat → Prop} {B0 pm : Nat} {an : Option Addr} {n cn : Nat} {at_ : Nat → List Nat} {pts : List Nat} {tl : Nat → List (Int × Value)} (h : MatB w C B0 pm an n cn at_ pts tl) {pt g c : Nat} {x : Value} {o : Obj} (hx : w.cell? ⟨pm, 1, none⟩ = some x)
    (own : w6.ownsRow B0 151 1 (.slice (some ⟨g, 0, none⟩) (pts.length + 1) c) (pts.length + 1) (pts.map ptrV ++ [ptrV pt])) (q : (w.alloc o).grownBy w6 x.ownBlock) (hg : x.ownBlock = some g ∨ w.heap.size ≤ g) :
    w6.cell? ⟨pm, 1, none⟩ = some x ∧ w6.frozen? ⟨pm, 1, none⟩ = false ∧ ∃ C', MatB (w6.setCell ⟨pm, 1, none⟩ (.slice (some ⟨g, 0, none⟩) (pts.length + 1) c)) C' B0 pm an n cn at_ (pts ++ [pt]) tl ∧ MatMv C C' w (w6.setCell ⟨pm, 1, none⟩ (.slice (some ⟨g, 0, none⟩) (pts.length + 1) c)) := by
  obtain ⟨tv, t1, t2, t3, t4⟩ := h.tries
  obtain ⟨ga, ca, a1, a2⟩ := h.at_
  obtain ⟨gt, ct, b1, b2⟩ := h.tests
  rw [hx] at t1
  cases t1
  have BX : ButS (fun b => x.ownBlock = some b) w w6 := ((ButS.refl _ w).alloc o).grown q (fun b e => .inl e)
  have npm : ¬ x.ownBlock = some pm := fun e => (own_ty t3 e).ne h.ty (by decide) rfl
  have hpm := h.ty.lt
  have c6 := BX.cell npm hx
  have f6 := frozen_but BX npm hpm t2
  have BP : ButS (fun b => b = pm) w6 (w6.setCell ⟨pm, 1, none⟩ (.slice (some ⟨g, 0, none⟩) (pts.length + 1) c)) := (ButS.refl (fun b => b = pm) w6).set (.inl rfl) _ _
  have BS : ButS (fun b => x.ownBlock = some b ∨ b = pm) w (w6.setCell ⟨pm, 1, none⟩ (.slice (some ⟨g, 0, none⟩) (pts.length + 1) c)) := (BX.mono (fun b _ e => .inl e)).trans (BP.mono (fun b _ e => .inr e))
  have hS : ∀ b, (x.ownBlock = some b ∨ b = pm) → Ty w b 151 ∨ Ty w b 137 := fun b hb => by
    rcases hb with hb | rfl
    · exact .inl (own_ty t3 hb)
    · exact .inr h.ty
  have t6 := h.ty.but BX npm
  have gl := (own.lt g rfl).2
  have gpm : g ≠ pm := (own_ty own rfl).ne t6 (by decide)
  have oth : ∀ k u, k ≠ 1 → w.cell? ⟨pm, k, none⟩ = some u → (w6.setCell ⟨pm, 1, none⟩ (.slice (some ⟨g, 0, none⟩) (pts.length + 1) c)).cell? ⟨pm, k, none⟩ = some u := fun k u hk hu => by
    rw [World.cell?_setCell_other _ _ _ _ (by intro e; injection e with _ e2; exact hk e2.symm)]
    exact BX.cell npm hu
  have ns : ∀ {et rt : TypeId}, et ≠ 151 → et ≠ 137 → rt ≠ 151 → rt ≠ 137 → ∀ b, (x.ownBlock = some b ∨ b = pm) → ¬ Ty w b et ∧ ¬ Ty w b rt := fun n1 n2 n3 n4 b hb => by
    rcases hS b hb with q | q
    · exact ⟨fun h2 => h2.ne q n1 rfl, fun h2 => h2.ne q n3 rfl⟩
    · exact ⟨fun h2 => h2.ne q n2 rfl, fun h2 => h2.ne q n4 rfl⟩
  refine ⟨c6, f6, fun b => C b ∨ b = g, ⟨fun b hb => ?_, .inl h.cpm, ?_, oth 0 _ (by decide) h.c0, ⟨.slice (some ⟨g, 0, none⟩) (pts.length + 1) c, World.cell?_setCell_same _ _ _ c6, by rw [World.frozen?_setCell]; exact f6, ?_, fun b hb => by cases hb; exact .inr rfl⟩, ⟨ga, ca, oth 2 _ (by decide) a1, (a2.but BS (ns (by decide) (by decide) (by decide) (by decide))).mono (fun b hb => .inl hb)⟩, gt, ct, oth 3 _ (by decide) b1, (b2.but BS (ns (by decide) (by decide) (by decide) (by decide))).mono (fun b hb => .inl hb)⟩, BS.mono (fun b _ hb => ?_), fun b hb => ?_⟩
  · rcases hb with hb | rfl
    · exact ⟨(h.low b hb).1, Nat.lt_of_lt_of_le (h.low b hb).2 BS.size⟩
    · exact ⟨(own.lt b rfl).1, by simpa using gl⟩
  · obtain ⟨cs, y, e⟩ := t6
    obtain ⟨cs', e'⟩ := typ_setCell e 1 (.slice (some ⟨g, 0, none⟩) (pts.length + 1) c)
    exact ⟨cs', y, e'⟩
  · rw [List.length_append, List.map_append]
    exact own_set_other own (.inr (fun e => by cases e; exact gpm rfl)) _
  · rcases hb with hb | rfl
    · exact t4 b hb
    · exact h.cpm
  · rcases hb with hb | rfl
    · exact .inl hb
    · rcases hg with e | e
      · exact .inl (t4 b e)
      · exact .inr e
end Go.Proofs.YtpgbenijjodoeaaGreat
