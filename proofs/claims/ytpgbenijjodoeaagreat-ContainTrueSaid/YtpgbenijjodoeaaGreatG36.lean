/- The walk of the join's laid: the rows that an atom finds in a base. -/
import Derived.Test.YtpgbenijjodoeaaGreatG8
import Derived.Test.YtpgbenijjodoeaaGreatG10
import Derived.Test.YtpgbenijjodoeaaGreatG31
import Derived.Test.YtpgbenijjodoeaaGreatG32
import Derived.Test.YtpgbenijjodoeaaGreatG35
namespace Go.Proofs.YtpgbenijjodoeaaGreat
open Go.ChangeShapes Go.WideShapes Go.ChangeAt Go.RowKit Go.Shelf
open K (Term Atom Rule TermsAt LitsAt RuleV termAt litAt)
abbrev oa360 : Oper := { dst := some 63, op := Go.Op.fieldAddr 53 (Go.Operand.tmp 12) 0, type := 0, pos := "leap.go:48", after := #[], guard := none }
abbrev oa361 : Oper := { dst := some 64, op := Go.Op.load 3 (Go.Operand.tmp 63), type := 3, pos := "leap.go:48", after := #[{ on := 0, ground := Go.Ground.data }], guard := none }
abbrev oa362 : Oper := { dst := some 65, op := Go.Op.binOp Go.BinOp.eql 3 (Go.Operand.tmp 64) (Go.Operand.const (Go.Value.int Go.IntKind.i64 3)) 3, type := 4, pos := "leap.go:48", after := #[{ on := 1, ground := Go.Ground.data }], guard := none }
abbrev oa363 : Oper := { dst := some 66, op := Go.Op.move (Go.Operand.tmp 65), type := 4, pos := "leap.go:48", after := #[{ on := 2, ground := Go.Ground.data }], guard := none }
abbrev oa364 : Oper := { dst := some 67, op := Go.Op.move (Go.Operand.tmp 10), type := 46, pos := "leap.go:48", after := #[{ on := 3, ground := Go.Ground.guard }], guard := some (3, true) }
abbrev oa365 : Oper := { dst := some 68, op := Go.Op.move (Go.Operand.tmp 11), type := 3, pos := "leap.go:48", after := #[{ on := 3, ground := Go.Ground.guard }], guard := some (3, true) }
abbrev oa366 : Oper := { dst := some 69, op := Go.Op.indexAddr 46 (Go.Operand.tmp 67) (Go.Operand.tmp 68), type := 0, pos := "leap.go:48", after := #[{ on := 4, ground := Go.Ground.data }, { on := 5, ground := Go.Ground.data }, { on := 3, ground := Go.Ground.guard }], guard := some (3, true) }
abbrev oa367 : Oper := { dst := some 70, op := Go.Op.load 9 (Go.Operand.tmp 69), type := 9, pos := "leap.go:48", after := #[{ on := 6, ground := Go.Ground.data }, { on := 3, ground := Go.Ground.guard }], guard := some (3, true) }
abbrev oa368 : Oper := { dst := some 71, op := Go.Op.fieldAddr 53 (Go.Operand.tmp 12) 1, type := 0, pos := "leap.go:48", after := #[{ on := 3, ground := Go.Ground.guard }], guard := some (3, true) }
abbrev oa369 : Oper := { dst := some 72, op := Go.Op.load 9 (Go.Operand.tmp 71), type := 9, pos := "leap.go:48", after := #[{ on := 8, ground := Go.Ground.data }, { on := 3, ground := Go.Ground.guard }], guard := some (3, true) }
abbrev oa3610 : Oper := { dst := some 73, op := Go.Op.binOp Go.BinOp.neq 9 (Go.Operand.tmp 70) (Go.Operand.tmp 72) 9, type := 4, pos := "leap.go:48", after := #[{ on := 7, ground := Go.Ground.data }, { on := 9, ground := Go.Ground.data }, { on := 3, ground := Go.Ground.guard }], guard := some (3, true) }
abbrev oa3611 : Oper := { dst := some 74, op := Go.Op.pick (Go.Operand.tmp 66) (Go.Operand.tmp 73) (Go.Operand.const (Go.Value.bool false)), type := 4, pos := "leap.go:48", after := #[{ on := 3, ground := Go.Ground.data }, { on := 10, ground := Go.Ground.data }], guard := none }
abbrev oa3612 : Oper := { dst := some 75, op := Go.Op.move (Go.Operand.tmp 74), type := 4, pos := "leap.go:48", after := #[{ on := 11, ground := Go.Ground.data }, { on := 3, ground := Go.Ground.chain }], guard := none }
abbrev oa3613 : Oper := { dst := some 76, op := Go.Op.fieldAddr 53 (Go.Operand.tmp 12) 0, type := 0, pos := "leap.go:48", after := #[{ on := 12, ground := Go.Ground.guard }], guard := some (12, false) }
abbrev oa3614 : Oper := { dst := some 77, op := Go.Op.load 3 (Go.Operand.tmp 76), type := 3, pos := "leap.go:48", after := #[{ on := 13, ground := Go.Ground.data }, { on := 12, ground := Go.Ground.guard }], guard := some (12, false) }
abbrev oa3615 : Oper := { dst := some 78, op := Go.Op.binOp Go.BinOp.eql 3 (Go.Operand.tmp 77) (Go.Operand.const (Go.Value.int Go.IntKind.i64 1)) 3, type := 4, pos := "leap.go:48", after := #[{ on := 14, ground := Go.Ground.data }, { on := 12, ground := Go.Ground.guard }], guard := some (12, false) }
abbrev oa3616 : Oper := { dst := some 79, op := Go.Op.move (Go.Operand.tmp 78), type := 4, pos := "leap.go:48", after := #[{ on := 15, ground := Go.Ground.data }, { on := 12, ground := Go.Ground.chain }, { on := 12, ground := Go.Ground.guard }], guard := some (12, false) }
abbrev oa3617 : Oper := { dst := some 80, op := Go.Op.move (Go.Operand.tmp 10), type := 46, pos := "leap.go:48", after := #[{ on := 16, ground := Go.Ground.guard }], guard := some (16, true) }
abbrev oa3618 : Oper := { dst := some 81, op := Go.Op.fieldAddr 24 (Go.Operand.tmp 3) 1, type := 0, pos := "leap.go:48", after := #[{ on := 16, ground := Go.Ground.guard }], guard := some (16, true) }
abbrev oa3619 : Oper := { dst := some 82, op := Go.Op.load 22 (Go.Operand.tmp 81), type := 22, pos := "leap.go:48", after := #[{ on := 18, ground := Go.Ground.data }, { on := 16, ground := Go.Ground.guard }], guard := some (16, true) }
abbrev oa3620 : Oper := { dst := some 83, op := Go.Op.load 53 (Go.Operand.tmp 12), type := 53, pos := "leap.go:48", after := #[{ on := 16, ground := Go.Ground.guard }], guard := some (16, true) }
abbrev oa3621 : Oper := { dst := some 84, op := Go.Op.call { callee := Go.Callee.value (Go.Operand.func 100), args := #[Go.Operand.tmp 82, Go.Operand.tmp 83], argTypes := #[22, 53] }, type := 3, pos := "leap.go:48", after := #[{ on := 19, ground := Go.Ground.data }, { on := 20, ground := Go.Ground.data }, { on := 16, ground := Go.Ground.chain }, { on := 16, ground := Go.Ground.guard }], guard := some (16, true) }
abbrev oa3622 : Oper := { dst := some 85, op := Go.Op.indexAddr 46 (Go.Operand.tmp 80) (Go.Operand.tmp 84), type := 0, pos := "leap.go:48", after := #[{ on := 17, ground := Go.Ground.data }, { on := 21, ground := Go.Ground.data }, { on := 16, ground := Go.Ground.guard }], guard := some (16, true) }
abbrev oa3623 : Oper := { dst := some 86, op := Go.Op.load 9 (Go.Operand.tmp 85), type := 9, pos := "leap.go:48", after := #[{ on := 22, ground := Go.Ground.data }, { on := 16, ground := Go.Ground.guard }], guard := some (16, true) }
abbrev oa3624 : Oper := { dst := some 87, op := Go.Op.move (Go.Operand.tmp 10), type := 46, pos := "leap.go:48", after := #[{ on := 16, ground := Go.Ground.guard }], guard := some (16, true) }
abbrev oa3625 : Oper := { dst := some 88, op := Go.Op.move (Go.Operand.tmp 11), type := 3, pos := "leap.go:48", after := #[{ on := 16, ground := Go.Ground.guard }], guard := some (16, true) }
abbrev oa3626 : Oper := { dst := some 89, op := Go.Op.indexAddr 46 (Go.Operand.tmp 87) (Go.Operand.tmp 88), type := 0, pos := "leap.go:48", after := #[{ on := 24, ground := Go.Ground.data }, { on := 25, ground := Go.Ground.data }, { on := 16, ground := Go.Ground.guard }], guard := some (16, true) }
abbrev oa3627 : Oper := { dst := some 90, op := Go.Op.load 9 (Go.Operand.tmp 89), type := 9, pos := "leap.go:48", after := #[{ on := 26, ground := Go.Ground.data }, { on := 16, ground := Go.Ground.guard }], guard := some (16, true) }
abbrev oa3628 : Oper := { dst := some 91, op := Go.Op.binOp Go.BinOp.neq 9 (Go.Operand.tmp 86) (Go.Operand.tmp 90) 9, type := 4, pos := "leap.go:48", after := #[{ on := 23, ground := Go.Ground.data }, { on := 27, ground := Go.Ground.data }, { on := 16, ground := Go.Ground.guard }], guard := some (16, true) }
abbrev oa3629 : Oper := { dst := some 92, op := Go.Op.pick (Go.Operand.tmp 79) (Go.Operand.tmp 91) (Go.Operand.const (Go.Value.bool false)), type := 4, pos := "leap.go:48", after := #[{ on := 16, ground := Go.Ground.data }, { on := 28, ground := Go.Ground.data }, { on := 12, ground := Go.Ground.guard }], guard := some (12, false) }
abbrev oa3630 : Oper := { dst := some 93, op := Go.Op.pick (Go.Operand.tmp 75) (Go.Operand.const (Go.Value.bool true)) (Go.Operand.tmp 92), type := 4, pos := "leap.go:48", after := #[{ on := 12, ground := Go.Ground.data }, { on := 29, ground := Go.Ground.data }], guard := none }
abbrev oa3631 : Oper := { dst := some 102, op := Go.Op.move (Go.Operand.tmp 13), type := 46, pos := "leap.go:54", after := #[], guard := none }
abbrev oa3632 : Oper := { dst := some 103, op := Go.Op.move (Go.Operand.tmp 10), type := 46, pos := "leap.go:54", after := #[], guard := none }
abbrev oa3633 : Oper := { dst := some 104, op := Go.Op.fieldAddr 24 (Go.Operand.tmp 3) 1, type := 0, pos := "leap.go:54", after := #[], guard := none }
abbrev oa3634 : Oper := { dst := some 105, op := Go.Op.load 22 (Go.Operand.tmp 104), type := 22, pos := "leap.go:54", after := #[{ on := 2, ground := Go.Ground.data }], guard := none }
abbrev oa3635 : Oper := { dst := some 106, op := Go.Op.load 46 (Go.Operand.tmp 5), type := 46, pos := "leap.go:54", after := #[], guard := none }
abbrev oa3636 : Oper := { dst := some 107, op := Go.Op.move (Go.Operand.tmp 15), type := 3, pos := "leap.go:54", after := #[], guard := none }
abbrev oa3637 : Oper := { dst := some 108, op := Go.Op.indexAddr 46 (Go.Operand.tmp 106) (Go.Operand.tmp 107), type := 0, pos := "leap.go:54", after := #[{ on := 4, ground := Go.Ground.data }, { on := 5, ground := Go.Ground.data }], guard := none }
abbrev oa3638 : Oper := { dst := some 109, op := Go.Op.load 9 (Go.Operand.tmp 108), type := 9, pos := "leap.go:54", after := #[{ on := 6, ground := Go.Ground.data }], guard := none }
abbrev oa3639 : Oper := { dst := some 110, op := Go.Op.build 53 #[(0, Go.Operand.const (Go.Value.int Go.IntKind.i64 1)), (1, Go.Operand.tmp 109)], type := 53, pos := "leap.go:54", after := #[{ on := 7, ground := Go.Ground.data }], guard := none }
abbrev oa3640 : Oper := { dst := some 112, op := Go.Op.indexAddr 46 (Go.Operand.tmp 103) (Go.Operand.tmp 111), type := 0, pos := "leap.go:54", after := #[{ on := 1, ground := Go.Ground.data }, { on := 9, ground := Go.Ground.data }], guard := none }
abbrev oa3641 : Oper := { dst := some 113, op := Go.Op.load 9 (Go.Operand.tmp 112), type := 9, pos := "leap.go:54", after := #[{ on := 10, ground := Go.Ground.data }], guard := none }
abbrev oa3642 : Oper := { dst := some 13, op := Go.Op.assign (Go.Operand.tmp 115), type := 46, pos := "leap.go:54", after := #[{ on := 13, ground := Go.Ground.data }, { on := 13, ground := Go.Ground.chain }, { on := 0, ground := Go.Ground.phase }, { on := 1, ground := Go.Ground.phase }, { on := 2, ground := Go.Ground.phase }, { on := 3, ground := Go.Ground.phase }, { on := 4, ground := Go.Ground.phase }, { on := 5, ground := Go.Ground.phase }, { on := 6, ground := Go.Ground.phase }, { on := 7, ground := Go.Ground.phase }, { on := 8, ground := Go.Ground.phase }, { on := 9, ground := Go.Ground.phase }, { on := 10, ground := Go.Ground.phase }, { on := 11, ground := Go.Ground.phase }, { on := 12, ground := Go.Ground.phase }, { on := 13, ground := Go.Ground.phase }], guard := none }
attribute [local go_sem] Oper.semAt_some
set_option linter.unusedSimpArgs false
def varT (n : ByteArray) : Term := ⟨1, n⟩
/-- Which of the first k names stand in an atom. -/
def tVarsN (names : List ByteArray) (ts : List Term) (k : Nat) : List Nat := (List.range k).filter fun i => decide (varT (gt names i) ∈ ts)
abbrev tVars (names : List ByteArray) (ts : List Term) : List Nat := tVarsN names ts names.length
theorem tVarsN_succ (names : List ByteArray) (ts : List Term) (k : Nat) : tVarsN names ts (k + 1) = tVarsN names ts k ++ if varT (gt names k) ∈ ts then [k] else [] := by
 unfold tVarsN
 rw [List.range_succ, List.filter_append]
 by_cases h : varT (gt names k) ∈ ts <;> simp [h]
theorem tVarsN_len (names : List ByteArray) (ts : List Term) (k : Nat) : (tVarsN names ts k).length ≤ k := by
 have := List.length_filter_le (fun i => decide (varT (gt names i) ∈ ts)) (List.range k)
 rw [List.length_range] at this
 exact this
/-- Does a row fit an atom? -/
def fitAt (ts : List Term) (x : List ByteArray) (i : Nat) : Bool := match ts[i]? with
 | some y => !((decide (y.kind = 3) && !decide (gt x i = y.text)) || (decide (y.kind = 1) && !decide (gt x (idxT ts y).toNat = gt x i)))
 | none => true
def fitsT (ts : List Term) (x : List ByteArray) : Bool := (List.range ts.length).all (fitAt ts x)
def outT (names : List ByteArray) (ts : List Term) (vars : List Nat) (x : List ByteArray) : List ByteArray := vars.map fun v => gt x (idxT ts (varT (gt names v))).toNat
def laidStep (names : List ByteArray) (ts : List Term) (acc : List (List ByteArray)) (x : List ByteArray) : List (List ByteArray) := if x.length = ts.length ∧ fitsT ts x = true then addTo (tVars names ts).length acc (outT names ts (tVars names ts) x) else acc
def laidRows (names : List ByteArray) (ts : List Term) (rs : List (List ByteArray)) : List (List ByteArray) := rs.foldl (laidStep names ts) []
abbrev intN (n : Nat) : Value := .int .i64 (n : Nat)
def LaidP (names : List ByteArray) (ts : List Term) (rs : List (List ByteArray)) (w : World) (e : Ending) (w' : World) : Prop := ∃ av cv pr, e = .returned (.agg #[.slice av (tVars names ts).length cv, .pointer (some ⟨pr, 0, none⟩)]) ∧ w'.ownsRow w.heap.size 3 1 (.slice av (tVars names ts).length cv) (tVars names ts).length ((tVars names ts).map intN) ∧ RowsV w' (pr + 1) pr (tVars names ts).length (laidRows names ts rs) ∧ w.heap.size ≤ pr ∧ Ext w w'
/-- While the variables are gathered. -/
structure Ld1 (W : World) (p7 : Nat) (vs : List Nat) (v : Value) (wj : World) : Prop where
 but : ButS (fun b => b = p7) W wj
 c0 : wj.cell? ⟨p7, 0, none⟩ = some v
 c1 : wj.cell? ⟨p7, 1, none⟩ = some (.pointer none)
 f0 : wj.frozen? ⟨p7, 0, none⟩ = false
 f1 : wj.frozen? ⟨p7, 1, none⟩ = false
 own : wj.ownsRow W.heap.size 3 1 v vs.length (vs.map intN)
 ty : Ty wj p7 139
theorem Ld1.ext {W wj wk : World} {p7 : Nat} {vs : List Nat} {v : Value} (h : Ld1 W p7 vs v wj) (hp : p7 < W.heap.size) (e : Ext wj wk) : Ld1 W p7 vs v wk :=
 have hl : p7 < wj.heap.size := Nat.lt_of_lt_of_le hp h.but.size
 ⟨h.but.ext e, keep e h.c0, keep e h.c1, (e.frozen (p := ⟨p7, 0, none⟩) hl).trans h.f0, (e.frozen (p := ⟨p7, 1, none⟩) hl).trans h.f1, up_ext h.own e, h.ty.ext e⟩
theorem Ld1.push {W wj w6 : World} {p7 g c : Nat} {vs : List Nat} {v : Value} {o : Obj} {k : Nat} (h : Ld1 W p7 vs v wj) (hp : p7 < W.heap.size) (own : w6.ownsRow W.heap.size 3 1 (.slice (some ⟨g, 0, none⟩) (vs.length + 1) c) (vs.length + 1) (vs.map intN ++ [intN k])) (q : (wj.alloc o).grownBy w6 v.ownBlock) :
  w6.cell? ⟨p7, 0, none⟩ = some v ∧ w6.frozen? ⟨p7, 0, none⟩ = false ∧ Ld1 W p7 (vs ++ [k]) (.slice (some ⟨g, 0, none⟩) (vs.length + 1) c) (w6.setCell ⟨p7, 0, none⟩ (.slice (some ⟨g, 0, none⟩) (vs.length + 1) c)) := by
 have hl : p7 < wj.heap.size := Nat.lt_of_lt_of_le hp h.but.size
 have hne : v.ownBlock ≠ some p7 := fun e => by have := (h.own.lt _ e).1; omega
 obtain ⟨u1, u2⟩ := grown_cellF q hne hl
 have hg := (own.lt g rfl).1
 have tb : Ty w6 p7 139 := h.ty.but (((ButS.refl (fun b => v.ownBlock = some b) wj).alloc o).grown q (fun b e => .inl e)) hne
 refine ⟨(u1 0).trans h.c0, (u2 0).trans h.f0, ?_, World.cell?_setCell_same _ _ _ ((u1 0).trans h.c0), ?_, ?_, ?_, ?_, ?_⟩
 ·exact ((h.but.alloc o).grown q (fun b e => .inr (h.own.lt b e).1)).set (.inl rfl) _ _
 ·rw [World.cell?_setCell_other _ _ _ _ (by simp)]
  exact (u1 1).trans h.c1
 ·rw [World.frozen?_setCell]
  exact (u2 0).trans h.f0
 ·rw [World.frozen?_setCell]
  exact (u2 1).trans h.f1
 ·rw [List.length_append, List.map_append]
  exact own_set_other own (.inr (fun e => by cases e; omega)) _
 ·obtain ⟨cs, x, q⟩ := tb
  obtain ⟨cs', q'⟩ := typ_setCell q 0 (.slice (some ⟨g, 0, none⟩) (vs.length + 1) c)
  exact ⟨cs', x, q'⟩
theorem noTy {W : World} {r : Nat} {o : Obj} {t : TypeId} (h : W.heap[r]? = some o) (ho : o.isCells = false) : ¬ Ty W r t := by
 rintro ⟨cs, x, e⟩
 rw [h] at e
 cases e
 cases ho
theorem gb_but {W W' : World} {row : Option Nat} (hg : W.grownBy W' row) : ButS (fun b => row = some b) W W' := (ButS.refl _ _).grown hg (fun _ e => .inl e)
/-- Rows stand when a loop's record turns. -/
theorem RowsV.turned {W W' : World} {row : Option Nat} {B lo pb ar : Nat} {rs : List (List ByteArray)} (h : RowsV W lo pb ar rs) (hg : W.grownBy W' row) (hr : ∀ r, row = some r → B ≤ r ∧ ∃ o : Obj, W.heap[r]? = some o ∧ o.isCells = false) (hp : pb < B) : RowsV W' lo pb ar rs :=
 (h.but (gb_but hg) (fun e => by have := (hr _ e).1; omega) (fun g hgi e => by obtain ⟨_, o, h1, h2⟩ := hr _ e; exact noTy h1 h2 (h.item_ty hgi).1) (fun b e ht => by obtain ⟨_, o, h1, h2⟩ := hr _ e; exact noTy h1 h2 ht)).1
theorem Ty.turned {W W' : World} {row : Option Nat} {b : Nat} {t : TypeId} (h : Ty W b t) (hg : W.grownBy W' row) (hr : ∀ r, row = some r → ∃ o : Obj, W.heap[r]? = some o ∧ o.isCells = false) : Ty W' b t :=
 h.but (gb_but hg) (fun e => by obtain ⟨o, h1, h2⟩ := hr _ e; exact noTy h1 h2 h)
theorem RowsV.raise {w : World} {lo lo' pb ar : Nat} (h : RowsV w lo pb ar []) (hi : itemB w pb = none) (hp : pb < lo') : RowsV w lo' pb ar [] := by
 obtain ⟨a, c, vs, h1, h2, h3⟩ := h.row
 have e := item_own h1
 rw [hi] at e
 obtain rfl : a = none := by
  cases a with
  | none => rfl
  | some ad => cases e
 have hc := (cap_of_own h2).2 rfl
 refine ⟨hp, h.c0, h.c2, h.free, none, c, [], h1, ?_, fun i r v hr => by simp at hr⟩
 rw [hc.2]
 exact World.ownsRow_nil _ _ _ _
theorem keeps_but {B : Nat} {W W' : World} {T : Nat → Prop} (h : ButS T W W') (hT : ∀ b, T b → ∃ t, Ty W b t) : KeepsFrom B W W' :=
 ⟨h.size, fun k o _ hk ho => (h.block k (Array.getElem?_eq_some_iff.1 hk).1 (fun q => by obtain ⟨t, ht⟩ := hT k q; exact noTy hk ho ht)).trans hk⟩
/-- What laid has when it ends. -/
structure LdEnd (w : World) (lo p6 pr m : Nat) (vl : List Value) (av : Option Addr) (cv : Nat) (rs : List (List ByteArray)) (W : World) : Prop where
 c0 : W.cell? ⟨p6, 0, none⟩ = some (.slice av m cv)
 c1 : W.cell? ⟨p6, 1, none⟩ = some (.pointer (some ⟨pr, 0, none⟩))
 rows : RowsV W lo pr m rs
 own : W.ownsRow w.heap.size 3 1 (.slice av m cv) m vl
 ext : Ext w W
theorem LdEnd.turned {w W W' : World} {row : Option Nat} {B lo p6 pr m : Nat} {vl : List Value} {av : Option Addr} {cv : Nat} {rs : List (List ByteArray)} (h : LdEnd w lo p6 pr m vl av cv rs W) (hg : W.grownBy W' row) (hr : ∀ r, row = some r → B ≤ r ∧ ∃ o : Obj, W.heap[r]? = some o ∧ o.isCells = false) (hp : pr < B) (h6 : p6 < B) (hw : w.heap.size ≤ B) : LdEnd w lo p6 pr m vl av cv rs W' :=
 have hne : ¬ row = some p6 := fun e => by have := (hr _ e).1; omega
 ⟨(gb_but hg).cell hne h.c0, (gb_but hg).cell hne h.c1, h.rows.turned hg hr hp, (gb_but hg).own h.own (fun b e q => by obtain ⟨_, o, h1, h2⟩ := hr _ q; exact noTy h1 h2 (own_ty h.own e)), ext_of_but h.ext (gb_but hg) (fun b hb e => by have := (hr _ e).1; omega)⟩
theorem laid_none {names : List ByteArray} {ts : List Term} {rs : List (List ByteArray)} (h : ∀ r ∈ rs, r.length ≠ ts.length) : laidRows names ts rs = [] := by
 unfold laidRows
 suffices ∀ acc, rs.foldl (laidStep names ts) acc = acc from this _
 induction rs with
 | nil => intro acc; rfl
 | cons r rs ih =>
  intro acc
  rw [List.foldl_cons, ih (fun r' hr' => h r' (by simp [hr']))]
  unfold laidStep
  rw [if_neg (fun q => h r (by simp) q.1)]
theorem laid_ok (names : List ByteArray) (ts : List Term) (rs : List (List ByteArray)) (h : (tVars names ts).length ≤ 64) : RelOk (tVars names ts).length (laidRows names ts rs) := by
 unfold laidRows
 suffices ∀ acc, RelOk (tVars names ts).length acc → RelOk (tVars names ts).length (rs.foldl (laidStep names ts) acc) from this _ (RelOk.nil h)
 induction rs with
 | nil => intro acc ha; exact ha
 | cons r rs ih =>
  intro acc ha
  rw [List.foldl_cons]
  refine ih _ ?_
  unfold laidStep
  split
  ·exact ha.add _
  ·exact ha
theorem nthRows_mem {rs : List (List ByteArray)} {pre : List { j : Nat // j < rs.length }} {r : List ByteArray} (h : r ∈ nthRows rs pre) : r ∈ rs := by
 obtain ⟨x, _, e⟩ := List.mem_map.1 h
 rw [List.getElem?_eq_getElem x.2] at e
 rw [← e]
 exact List.getElem_mem _
theorem res_laid (tmps : Array Value) (p6 : Nat) (v0 v1 : Value) (W : World) (h6 : tmps.getD 6 undef = .pointer (some ⟨p6, 0, none⟩)) (c0 : W.cell? ⟨p6, 0, none⟩ = some v0) (c1 : W.cell? ⟨p6, 1, none⟩ = some v1) : (results Tryz.f83 tmps).run Tryz.prog W = .ok (.agg #[v0, v1]) W := by
 have h : tmps[6]?.getD undef = .pointer (some ⟨p6, 0, none⟩) := by rw [← h6]; simp
 simp only [results, Tryz.f83]
 go_simp
set_option maxRecDepth 100000 in
set_option maxHeartbeats 4000000 in
theorem c_laid (names : List ByteArray) (a : Atom) (aa : Option Addr) (na ca : Nat) (an : Option Addr) (n cn : Nat) (lo bb : Nat) (f : RelM) (w : World) (hb : BaseV w lo bb f) (ht : TermsAt w aa na a.terms) (hs : StrsAt w an n names) (hn : n ≤ 1000000) (hna : na ≤ 1000000) (h64 : (tVars names a.terms).length ≤ 64) :
  Calls Tryz.prog 83 #[.agg #[.string a.pred, .slice aa na ca], .pointer (some ⟨bb, 0, none⟩), .slice an n cn] w (LaidP names a.terms (rowsIn f a.pred) w) := by
 obtain ⟨i0, hi, hz0, hz1, hz2⟩ := info_parts info_int
 have HB := Lib.hid hb
 have HT := Lib.hid ht
 have HS := Lib.hid hs
 have HNL := Lib.hid hs.2.1
 have H64 := Lib.hid h64
 clear hb ht hs h64
 refine (callsIn_wide (n := 5)).1 ?_
 refine callsIn_of_wp_marks Tryz.func83 rfl trivial ?_
 simp only [Tryz.ntmps83, List.size_toArray, List.length_cons, List.length_nil, Nat.reduceAdd, Nat.reduceSub, Array.replicate_succ, Array.replicate_zero, List.push_toArray, List.append_toArray, List.nil_append, List.cons_append]
 refine wpIn_wide.2 ?_
 go_wp2
 go_step3
 go_wp2
 refine wp_gen (fun W hW => ?_)
 obtain ⟨p7, hp7⟩ : ∃ p7, w.heap.size + 1 + 1 + 1 = p7 := ⟨_, rfl⟩
 obtain ⟨p6, hp6⟩ : ∃ p6, w.heap.size + 1 + 1 = p6 := ⟨_, rfl⟩
 obtain ⟨p5, hp5⟩ : ∃ p5, w.heap.size + 1 = p5 := ⟨_, rfl⟩
 obtain ⟨p3, hp3⟩ : ∃ p3, w.heap.size = p3 := ⟨_, rfl⟩
 have EW : Hid (Ext w W) := by show Ext _ _; rw [hW]; exact ext_alloc (ext_alloc (ext_alloc (ext_alloc (Below.refl _ _) _) _) _) _
 have SZ : Hid (W.heap.size = p7 + 1 ∧ p7 = p6 + 1 ∧ p6 = p5 + 1 ∧ p5 = p3 + 1 ∧ p3 = w.heap.size) := by refine ⟨?_, ?_, ?_, ?_, ?_⟩ <;> first | omega | (rw [hW]; simp; omega)
 have C3 : Hid (W.cell? ⟨p3, 1, none⟩ = some (.slice aa na ca) ∧ W.cell? ⟨p3, 0, none⟩ = some (.string a.pred)) := by constructor <;> (rw [hW, ← hp3]; go_simp)
 have C5 : Hid (W.cell? ⟨p5, 0, none⟩ = some (.slice an n cn)) := by show _ = _; rw [hW, ← hp5]; go_simp
 have C6 : Hid (W.cell? ⟨p6, 0, none⟩ = some (.slice none 0 0) ∧ W.cell? ⟨p6, 1, none⟩ = some (.pointer none) ∧ W.frozen? ⟨p6, 0, none⟩ = false ∧ W.frozen? ⟨p6, 1, none⟩ = false) := by refine ⟨?_, ?_, ?_, ?_⟩ <;> (rw [hW, ← hp6]; go_simp)
 have L0 : Hid (Ld1 W p7 [] (.slice none 0 0) W) := by
  refine ⟨ButS.refl _ _, ?_, ?_, ?_, ?_, World.ownsRow_nil _ _ _ _, ?_⟩
  ·rw [hW, ← hp7]; go_simp
  ·rw [hW, ← hp7]; go_simp
  ·rw [hW, ← hp7]; go_simp
  ·rw [hW, ← hp7]; go_simp
  ·refine ⟨#[.slice none 0 0, .pointer none], (0, 0), ?_⟩
   have := heap_alloc_new (((w.alloc (.cells #[.string a.pred, .slice aa na ca] 24)).alloc (.cells #[.slice an n cn] 46)).alloc (.cells #[.slice none 0 0, .pointer none] 139)) (.cells #[.slice none 0 0, .pointer none] 139)
   rw [hW, ← hp7]
   simpa using this
 have TY6 : Hid (Ty W p6 139) := by
  refine ⟨#[.slice none 0 0, .pointer none], (0, 0), ?_⟩
  have := heap_alloc_new ((w.alloc (.cells #[.string a.pred, .slice aa na ca] 24)).alloc (.cells #[.slice an n cn] 46)) (.cells #[.slice none 0 0, .pointer none] 139)
  rw [hW, ← hp6]
  refine ((ext_alloc (Below.refl _ _) (.cells #[.slice none 0 0, .pointer none] 139)).block _ (by simp)).trans ?_
  simpa using this
 have P7 : Hid (p7 < W.heap.size) := by have := SZ.out.1; show _ < _; omega
 rw [hp7, hp6, hp5, hp3]
 clear hW hp7 hp6 hp5 hp3
 have c5 := C5.out
 go_loopw [8, 9, 18] (fun _ _ u wj => ∃ k : Nat, k ≤ n ∧ u = .int .i64 k ∧ ∃ v, Ld1 W p7 (tVarsN names a.terms k) v wj) (fun _ _ u _ => n - (intOf u).toNat)
 case atStart => exact ⟨0, by omega, rfl, _, L0.out⟩
 case round =>
  obtain ⟨k, hk, rfl, v, hst⟩ := hrel
  have ST := Lib.hid hst
  have EWR : Hid (ButS (fun b => b = p7) W wr) := hst.but
  have EX : Hid (Ext w wr) := ext_of_but EW.out hst.but (fun b hb e => by have := SZ.out; omega)
  have ge5 : ∀ {b : Nat} {o v}, b ≠ p7 → W.cell? ⟨b, o, none⟩ = some v → wr.cell? ⟨b, o, none⟩ = some v := fun hb h => EWR.out.cell hb h
  have c3 := ge5 (by have := SZ.out; omega) C3.out.1
  clear hst
  by_cases hlt : k < n
  ·have hki : (k : Int) < (n : Int) := by omega
   obtain ⟨y, b0, o0, hx, rfl, h2⟩ := (HS.out.keep EX.out).2.at hlt
   rw [Nat.mul_one] at h2
   have h3 : wr.cell? ⟨b0, o0 + k, none⟩ = some (.string y) := h2
   have HY : Hid (gt names k = y) := by
    show _ = _
    unfold gt
    rw [hx]
    rfl
   clear hx h2 ge5
   have CT : Hid (Calls Tryz.prog 98 #[.slice aa na ca, .agg #[.int .i64 1, .string y]] wr fun e w' => e = .returned (.bool (decide (varT y ∈ a.terms))) ∧ Ext wr w') := c_contTm a.terms (varT y) aa na ca wr (HT.out.keep EX.out)
   obtain ⟨bq, hbq⟩ : ∃ b, decide (varT y ∈ a.terms) = b := ⟨_, rfl⟩
   have HBQ := Lib.hid hbq
   rw [hbq] at CT
   clear hbq
   cases bq with
   | false =>
    go_wp2_with (go_at_call 98; (with_reducible refine CT.out.mono ?_); rintro e w5 ⟨rfl, e5⟩)
    go_roundw
    case rel =>
     refine ⟨k + 1, by omega, by go_num, v, ?_⟩
     rw [tVarsN_succ, HY.out, if_neg (of_decide_eq_false HBQ.out), List.append_nil]
     exact ST.out.ext P7.out e5
    case measure => simp [intOf]; omega
   | true =>
    have hlen := tVarsN_len names a.terms k
    have HSZ : Hid (W.heap.size ≤ wr.heap.size) := EWR.out.size
    obtain ⟨m, hm⟩ : ∃ m, (tVarsN names a.terms k).length = m := ⟨_, rfl⟩
    have hml : m ≤ 1000000 := by omega
    have OWN : Hid (∀ w5, Ext wr w5 → Ld1 W p7 (tVarsN names a.terms k) v w5 ∧ w5.ownsRow W.heap.size 3 1 v m ((tVarsN names a.terms k).map intN) ∧ w5.cell? ⟨p7, 0, none⟩ = some v ∧ W.heap.size ≤ w5.heap.size) := fun w5 e5 => ⟨ST.out.ext P7.out e5, by rw [← hm]; exact (ST.out.ext P7.out e5).own, (ST.out.ext P7.out e5).c0, Nat.le_trans HSZ.out e5.size⟩
    have HM := Lib.hid hm
    clear hm hlen
    go_wp2_with (first
     | (go_at_call 98; (with_reducible refine CT.out.mono ?_); rintro e w5 ⟨rfl, e5⟩; obtain ⟨L5, O5, c50, z5⟩ := OWN.out w5 e5; have c51 := fun o => keep (ext_alloc (Below.refl _ w5) o) c50)
     | (at_builtin; go_loud (refine wpList_append_lies _ rfl _ _ 58 rfl W.heap.size 3 i0 (.int .i64 0) 1 8 Tryz.underlying58 hi hz0 hz1 hz2 rfl (by decide) v m ((tVarsN names a.terms k).map intN) rfl (O5.alloc _) ⟨w5.heap.size, 0, none⟩ 1 1 [intN k] rfl rfl (news1 _ _ _) (fun x hx => by cases List.mem_singleton.1 hx; rfl) (Nat.zero_lt_one) (by unfold maxLen; omega) (by omega) (size_alloc_le z5) _ rfl ?_); intro g7 p8 w7 own7 q7 hat7 hlt7; rw [← HM.out] at own7; obtain ⟨d0, d1, d2⟩ := L5.push P7.out own7 q7))
    go_roundw
    case rel =>
     refine ⟨k + 1, by omega, by go_num, .slice (some ⟨g7, 0, none⟩) (m + 1) p8, ?_⟩
     rw [tVarsN_succ, HY.out, if_pos (of_decide_eq_true HBQ.out)]
     rw [HM.out] at d2
     exact d2
    case measure => simp [intOf]; omega
  ·obtain rfl : k = n := by omega
   have hge : ¬ (k : Int) < (k : Int) := by omega
   have HTV : Hid (tVarsN names a.terms k = tVars names a.terms) := by show _ = _; rw [← HNL.out]
   rw [HTV.out] at ST
   obtain ⟨av, cv, rfl, _⟩ := own_form ST.out.own
   have e0 := ST.out.c0
   have e1 := ST.out.c1
   have z1 := ST.out.f1
   have NR := Lib.hid (c_newRows2 (tVars names a.terms).length H64.out wr)
   have c32 := ge5 (by have := SZ.out; omega) C3.out.2
   obtain ⟨m, hm⟩ : ∃ m, (tVars names a.terms).length = m := ⟨_, rfl⟩
   have HM := Lib.hid hm
   rw [hm] at e0 NR
   have HSZ : Hid (p7 < wr.heap.size) := Nat.lt_of_lt_of_le P7.out EWR.out.size
   clear hm
   go_wp2_with (go_at_call 27; (with_reducible refine NR.out.mono ?_); rintro e w2 ⟨rfl, v2, t2, i2, e2, s2⟩; have y1 := keep e2 e1; have y2 := (e2.frozen (p := ⟨p7, 1, none⟩) HSZ.out).trans z1)
   refine wp_gen (fun W3 hW3 => ?_)
   obtain ⟨pr, hpr⟩ : ∃ pr, wr.heap.size = pr := ⟨_, rfl⟩
   rw [hpr] at v2 t2 i2 hW3 s2
   rw [hpr]
   have hp7r : p7 < pr := by have := HSZ.out; omega
   have B3 : ButS (fun b => b = p7) w2 W3 := by rw [hW3]; exact (ButS.refl (fun b => b = p7) _).set (.inl rfl) _ _
   have EX2 : Ext w w2 := ext_trans EX.out e2
   have P3S := SZ.out
   have EW3 : Hid (Ext w W3) := ext_of_but EX2 B3 (fun b hb e => by omega)
   have D3 : Hid (W3.cell? ⟨p3, 0, none⟩ = some (.string a.pred) ∧ W3.cell? ⟨p3, 1, none⟩ = some (.slice aa na ca)) := ⟨B3.cell (by omega) (keep e2 c32), B3.cell (by omega) (keep e2 c3)⟩
   have D5 : Hid (W3.cell? ⟨p5, 0, none⟩ = some (.slice an k cn)) := B3.cell (by omega) (keep e2 (ge5 (by omega) C5.out))
   have d6 : ∀ o v, W.cell? ⟨p6, o, none⟩ = some v → W.frozen? ⟨p6, o, none⟩ = false → W3.cell? ⟨p6, o, none⟩ = some v ∧ W3.frozen? ⟨p6, o, none⟩ = false := fun o v h1 h2 => ⟨B3.cell (by omega) (keep e2 (ge5 (by omega) h1)), frozen_but B3 (by omega) (by have := e2.size; omega) ((e2.frozen (p := ⟨p6, o, none⟩) (show p6 < wr.heap.size by omega)).trans (frozen_but EWR.out (by omega) (by omega) h2))⟩
   have D6 : Hid ((W3.cell? ⟨p6, 0, none⟩ = some (.slice none 0 0) ∧ W3.frozen? ⟨p6, 0, none⟩ = false) ∧ W3.cell? ⟨p6, 1, none⟩ = some (.pointer none) ∧ W3.frozen? ⟨p6, 1, none⟩ = false) := ⟨d6 _ _ C6.out.1 C6.out.2.2.1, d6 _ _ C6.out.2.1 C6.out.2.2.2⟩
   have D7 : Hid (W3.cell? ⟨p7, 0, none⟩ = some (.slice av m cv) ∧ W3.cell? ⟨p7, 1, none⟩ = some (.pointer (some ⟨pr, 0, none⟩))) := by
    rw [hW3]
    refine ⟨?_, World.cell?_setCell_same _ _ _ y1⟩
    rw [World.cell?_setCell_other _ _ _ _ (by simp)]
    exact keep e2 e0
   have OW3 : Hid (W3.ownsRow w.heap.size 3 1 (.slice av m cv) m ((tVars names a.terms).map intN)) := by
    have h1 := up_ext ST.out.own e2
    rw [HM.out] at h1
    exact own_base (B3.own h1 (fun b e q => by have := (h1.lt b e).1; subst q; omega)) (by have := EW.out.size; omega)
   have V3 : Hid (RowsV W3 (pr + 1) pr m [] ∧ itemB W3 pr = itemB w2 pr) := v2.but B3 (by omega) (fun g hg => by rw [i2] at hg; cases hg) (fun b hb ht => by subst hb; exact (ST.out.ty.ext e2).ne ht (by decide) rfl)
   have TY63 : Hid (Ty W3 p6 139) := ((TY6.out.but EWR.out (by omega)).ext e2).but B3 (by omega)
   have T3 : Hid (Ty W3 pr 99 ∧ itemB W3 pr = none) := ⟨t2.but B3 (by omega), V3.out.2.trans i2⟩
   have PS : Hid (p3 < p5 ∧ p5 < p6 ∧ p6 < p7 ∧ p7 < pr ∧ w.heap.size = p3) := by refine ⟨?_, ?_, ?_, ?_, ?_⟩ <;> omega
   have EB := Lib.hid (c_eachB lo bb f a.pred W3 (HB.out.ext EW3.out))
   have HRO : Hid ((rowsIn f a.pred).length ≤ 65536 ∧ ∃ ar, ar ≤ 64 ∧ ∀ r ∈ rowsIn f a.pred, r.length = ar ∧ mayRow r = true) := by
    unfold rowsIn
    cases hf : f a.pred with
    | none => exact ⟨by simp, 0, by omega, by simp⟩
    | some x => exact ⟨(HB.out.r.rel _ x hf).2.2.2.few, _, (HB.out.r.rel _ x hf).2.2.2.wide, (HB.out.r.rel _ x hf).2.2.2.row⟩
   obtain ⟨rs, hrs⟩ : ∃ rs, rowsIn f a.pred = rs := ⟨_, rfl⟩
   rw [hrs] at EB HRO
   have HRS := Lib.hid hrs
   have d30 := D3.out.1
   obtain ⟨u39, hu39⟩ : ∃ u39 : Value, u39 = .tuple #[.pointer (some ⟨pr, 0, none⟩), .int .i64 0] := ⟨_, rfl⟩
   clear hW3 B3 EX2 v2 t2 i2 s2 e2 ge5 c3 c32 e0 e1 z1 y1 y2 NR d6 ST EWR EX HSZ P3S hpr hp7r hrs L0 C3 C5 C6 c5 EW SZ P7 hu39
   go_step3
   go_wp2_with (go_at_call 99; (with_reducible refine EB.out.mono ?_); rintro e w4 ⟨bs, a4, c4, vs, rfl, hb1, hb2, hb3, hb4, hb5, hb6⟩)
   have z4 : W3.heap.size ≤ w4.heap.size := hb6.size
   have HEV : Hid (Ext w w4) := ext_trans EW3.out hb6
   have hprl : pr < w4.heap.size := Nat.lt_of_lt_of_le T3.out.1.lt z4
   have hps := PS.out
   have V4 : Hid (RowsV w4 w4.heap.size pr m [] ∧ Ty w4 pr 99) := ⟨((V3.out.1.ext hb6).raise (by
    have h1 := T3.out.2
    obtain ⟨_, _, _, q, _⟩ := V3.out.1.row
    rw [item_own (keep hb6 q), ← item_own q, h1]) hprl), T3.out.1.ext hb6⟩
   have F4 : Hid (w4.cell? ⟨p3, 1, none⟩ = some (.slice aa na ca) ∧ w4.cell? ⟨p5, 0, none⟩ = some (.slice an k cn) ∧ w4.cell? ⟨p7, 0, none⟩ = some (.slice av m cv) ∧ w4.cell? ⟨p7, 1, none⟩ = some (.pointer (some ⟨pr, 0, none⟩))) := ⟨keep hb6 D3.out.2, keep hb6 D5.out, keep hb6 D7.out.1, keep hb6 D7.out.2⟩
   have F6 : Hid ((w4.cell? ⟨p6, 0, none⟩ = some (.slice none 0 0) ∧ w4.frozen? ⟨p6, 0, none⟩ = false) ∧ w4.cell? ⟨p6, 1, none⟩ = some (.pointer none) ∧ w4.frozen? ⟨p6, 1, none⟩ = false) := by
    have hl : p6 < W3.heap.size := World.block_lt_of_cell? W3 ⟨p6, 0, none⟩ D6.out.1.1
    exact ⟨⟨keep hb6 D6.out.1.1, (hb6.frozen (p := ⟨p6, 0, none⟩) hl).trans D6.out.1.2⟩, keep hb6 D6.out.2.1, (hb6.frozen (p := ⟨p6, 1, none⟩) hl).trans D6.out.2.2⟩
   have OW4 := Lib.hid (up_ext OW3.out hb6)
   have TY64 := Lib.hid (TY63.out.ext hb6)
   have h1v : ∀ v ∈ vs, ∃ a m c, v = Value.slice a m c := fun v hv => by
    obtain ⟨k, hk⟩ := List.mem_iff_getElem?.1 hv
    have hkl := (List.getElem?_eq_some_iff.1 hk).1
    obtain ⟨r, hrr⟩ : ∃ r, rs[k]? = some r := ⟨_, List.getElem?_eq_getElem (by have := hb5.1; omega)⟩
    obtain ⟨a, c, e, _⟩ := own_form (hb5.2 k r v hrr hk)
    exact ⟨a, _, c, e⟩
   have VS := Lib.hid hb5
   have fin : ∀ (D : Nat) (W : World), w4.heap.size ≤ D → LdEnd w w4.heap.size p6 pr m ((tVars names a.terms).map intN) av cv (laidRows names a.terms rs) W → W.heap[D]? = some (.deferred (some [])) → ∀ tmps : Array Value, tmps.getD 6 undef = .pointer (some ⟨p6, 0, none⟩) → ∃ v, (results Tryz.f83 tmps).run Tryz.prog (W.putObj D (.deferred none)) = .ok v (W.putObj D (.deferred none)) ∧ LaidP names a.terms (rowsIn f a.pred) w (.returned v) (W.putObj D (.deferred none)) := fun D W hD h hK tmps h6 => by
    have h2 := h.turned (grownBy_putObj' W D (.deferred none)) (B := w4.heap.size) (fun r e => by cases e; exact ⟨hD, _, hK, rfl⟩) hprl (by omega) HEV.out.size
    refine ⟨_, res_laid tmps p6 _ _ _ h6 h2.c0 h2.c1, av, cv, pr, by rw [HM.out], ?_, ?_, by omega, h2.ext⟩
    ·rw [HM.out]
     exact h2.own
    ·rw [HM.out, HRS.out]
     obtain ⟨a', c', us, r1, r2, r3⟩ := h2.rows.row
     exact ⟨Nat.lt_succ_self _, h2.rows.c0, h2.rows.c2, h2.rows.free, a', c', us, r1, own_base r2 hprl, fun i r v hr hv => own_base (r3 i r v hr hv) hprl⟩
   have LEQ : ∀ W acc, RowsV W w4.heap.size pr m acc → Ty W pr 99 → ButS (fun b => b = pr ∨ w4.heap.size ≤ b) w4 W → KeepsFrom w4.heap.size W ((W.setCell ⟨p6, 0, none⟩ (.slice av m cv)).setCell ⟨p6, 1, none⟩ (.pointer (some ⟨pr, 0, none⟩))) ∧ LdEnd w w4.heap.size p6 pr m ((tVars names a.terms).map intN) av cv acc ((W.setCell ⟨p6, 0, none⟩ (.slice av m cv)).setCell ⟨p6, 1, none⟩ (.pointer (some ⟨pr, 0, none⟩))) := fun W acc h1 h2 h3 => by
    have np : ∀ {b}, b < pr → ¬ (b = pr ∨ w4.heap.size ≤ b) := fun hb q => by omega
    have g2 := h3.cell (np (by omega)) F6.out.1.1
    have g3 := h3.cell (np (by omega)) F6.out.2.1
    have BS : ButS (fun b => b = p6) W ((W.setCell ⟨p6, 0, none⟩ (.slice av m cv)).setCell ⟨p6, 1, none⟩ (.pointer (some ⟨pr, 0, none⟩))) := ((ButS.refl (fun b => b = p6) W).set (.inl rfl) _ _).set (.inl rfl) _ _
    have ty6 := TY64.out.but h3 (np (by omega))
    have ow := h3.own OW4.out (fun b e q => by
     rcases q with rfl | q
     ·exact (own_ty OW4.out e).ne V4.out.2 (by decide) rfl
     ·have := (OW4.out.lt b e).2; omega)
    have g2' := World.cell?_setCell_same W ⟨p6, 0, none⟩ (.slice av m cv) g2
    refine ⟨keeps_but BS (fun b hb => by subst hb; exact ⟨_, ty6⟩), ?_, ?_, (h1.but BS (by omega) (fun g hg e => by subst e; exact (h1.item_ty hg).1.ne ty6 (by decide) rfl) (fun b hb ht => by subst hb; exact ht.ne ty6 (by decide) rfl)).1, BS.own ow (fun b e q => by subst q; exact (own_ty ow e).ne ty6 (by decide) rfl), ext_of_but (ext_of_but HEV.out h3 (fun b hb q => by omega)) BS (fun b hb q => by omega)⟩
    ·rw [World.cell?_setCell_other _ _ _ _ (by simp)]
     exact g2'
    ·exact World.cell?_setCell_same _ _ _ ((World.cell?_setCell_other _ _ _ _ (by simp)).trans g3)
   refine (wpIn_wide (n := 5)).1 ?_
   refine' wpIn_rangeFunc_ownG (F := Fence.wide) rfl (by omega) (gf := 59) (lb := #[.pointer (some ⟨bs, 0, none⟩)]) rfl trivial (enters_of Tryz.func59 (by kernel_rfl) rfl)
    (values_stops Fence.wide 4 trivial rfl (by omega) bs _ rs.length c4 a4 vs w4 hb4 h1v (by have := HRO.out.1; omega) (fun b => b = pr ∨ w4.heap.size ≤ b) (fun b e q => by
     rcases q with rfl | q
     ·exact (own_ty hb4 e).ne V4.out.2 (by decide) rfl
     ·have := (hb4.lt b e).2; omega) hb2 hb3) (fun h k => h.trans k) (fun W l o o' hl _ _ _ => ButS.putObj W o' (.inr hl)) (Below.refl _ _) (fun _ => rfl)
    (fun pre W => RowsV W w4.heap.size pr m (laidRows names a.terms (nthRows rs pre)) ∧ Ty W pr 99 ∧ ButS (fun b => b = pr ∨ w4.heap.size ≤ b) w4 W)
    (fun c _ W => c = .ret ∧ LdEnd w w4.heap.size p6 pr m ((tVars names a.terms).map intN) av cv (laidRows names a.terms rs) W)
    ?own ?ownx ⟨V4.out.1, V4.out.2, ButS.refl _ _⟩ _ ?assign ?body ?done ?stop
   case assign =>
    intro l x W K hK
    gi_wp2
    exact hK
   case own =>
    rintro pre W W' row ⟨h1, h2, h3⟩ hg hr
    exact ⟨h1.turned hg hr hprl, h2.turned hg (fun r e => (hr r e).2), h3.grown hg (fun b e => .inl (.inr (hr b e).1))⟩
   case ownx =>
    rintro c pre W W' row ⟨h1, h2⟩ hg hr
    exact ⟨h1, h2.turned hg hr hprl (by omega) HEV.out.size⟩
   case done =>
    rintro D ys W hD rfl ⟨h1, h2, h3⟩ hK
    rw [nthRows_to rs (Nat.le_refl _), List.take_length] at h1
    have np : ∀ {b}, b < pr → ¬ (b = pr ∨ w4.heap.size ≤ b) := fun hb q => by omega
    have g0 := h3.cell (np (by omega)) F4.out.2.2.1
    have g1 := h3.cell (np (by omega)) F4.out.2.2.2
    have g2 := h3.cell (np (by omega)) F6.out.1.1
    have g3 := h3.cell (np (by omega)) F6.out.2.1
    have g4 := frozen_but h3 (np (by omega)) (by omega) F6.out.1.2
    have g5 := frozen_but h3 (np (by omega)) (by omega) F6.out.2.2
    have QK : W.heap[D]? = some (.deferred (some [])) := hK
    go_wp2
    rw [Exit.noGoto_ret]
    have hK2 := (KeepsOthers.setCell _ ⟨p6, 1, none⟩ (.pointer (some ⟨pr, 0, none⟩))).same D _ ((KeepsOthers.setCell W ⟨p6, 0, none⟩ (.slice av m cv)).same D _ QK rfl) rfl
    obtain ⟨_, LE⟩ := LEQ W _ h1 h2 h3
    refine ⟨by simp, .inl ⟨_, _, rfl, run_takeDeferred hK2, ?_⟩⟩
    exact fin D _ hD LE hK2 _ rfl
   case stop =>
    rintro D c pre W hD hpre ⟨rfl, h⟩ hK
    gi_wp2
    rw [Exit.noGoto_ret]
    refine ⟨by simp, .inl ⟨_, _, rfl, run_takeDeferred hK, ?_⟩⟩
    exact fin D _ hD h hK _ rfl
   case body =>
    rintro l pre x W ⟨h1, h2, h3⟩ hlt
    have np : ∀ {b}, b < pr → ¬ (b = pr ∨ w4.heap.size ≤ b) := fun hb q => by omega
    obtain ⟨r, hr1⟩ : ∃ r, rs[x.1]? = some r := ⟨_, List.getElem?_eq_getElem x.2⟩
    obtain ⟨v, hv1⟩ : ∃ v, vs[x.1]? = some v := ⟨_, List.getElem?_eq_getElem (by rw [VS.out.1]; exact x.2)⟩
    obtain ⟨hrl, har, ar, har64, hall⟩ : ∃ _ : r ∈ rs, ∃ _ : True, ∃ ar, ar ≤ 64 ∧ ∀ r ∈ rs, r.length = ar ∧ mayRow r = true := ⟨List.mem_of_getElem? hr1, trivial, HRO.out.2⟩
    have ho4 := VS.out.2 _ r v hr1 hv1
    have ho1 := h3.own ho4 (fun b e q => by
     rcases q with rfl | q
     ·exact (own_ty ho4 e).ne V4.out.2 (by decide) rfl
     ·have := (ho4.lt b e).2; omega)
    obtain ⟨a7, c7, rfl, _⟩ := own_form ho1
    have hv2 : vs[x.1]?.getD undef = .slice a7 r.length c7 := by rw [hv1]; rfl
    rw [hv2]
    have EWW : Hid (Ext w W) := ext_of_but HEV.out h3 (fun b hb q => by omega)
    have RST : Hid (StrsAt W a7 r.length r) := own_strs ho1 (own_len ho1).1
    have g31 := h3.cell (np (by omega)) F4.out.1
    have g50 := h3.cell (np (by omega)) F4.out.2.1
    have g70 := h3.cell (np (by omega)) F4.out.2.2.1
    have g71 := h3.cell (np (by omega)) F4.out.2.2.2
    have hrla : r.length = ar := (hall r hrl).1
    by_cases hne : r.length = na
    ·have hne1 : ((r.length : Int) != (na : Int)) = false := by simp; omega
     have HNA : Hid (a.terms.length = na) := HT.out.2.1
     have UNF : Hid (fitsT a.terms r = false → laidRows names a.terms (nthRows rs (pre ++ [x])) = laidRows names a.terms (nthRows rs pre)) := fun hf => by
      rw [nthRows_snoc rs pre x hr1]
      unfold laidRows
      rw [List.foldl_append]
      show laidStep names a.terms _ r = _
      unfold laidStep
      rw [if_neg (by rw [hf]; simp)]
     have EXF : Hid (∀ w', Ext W w' → ∀ {j}, (h : fitAt a.terms r j = false) → KeepsFrom w4.heap.size W w' ∧ ButS (fun b => b = pr ∨ w4.heap.size ≤ b) W w' ∧ RowsV w' w4.heap.size pr m (laidRows names a.terms (nthRows rs (pre ++ [x]))) ∧ Ty w' pr 99 ∧ ButS (fun b => b = pr ∨ w4.heap.size ≤ b) w4 w') := fun w' e j h => by
      have hf : fitsT a.terms r = false := by
       unfold fitsT
       rw [List.all_eq_false]
       refine ⟨j, List.mem_range.2 ?_, by rw [h]; simp⟩
       by_cases hj : j < a.terms.length
       ·exact hj
       ·unfold fitAt at h
        rw [List.getElem?_eq_none (by omega)] at h
        cases h
      rw [UNF.out hf]
      exact ⟨(KeepsOthers.ext e).from _, (ButS.refl _ _).ext e, h1.ext e, h2.ext e, h3.ext e⟩
     have HRNA := Lib.hid hne
     gi_wp2
     clear hne hrla hne1 hall
     gi_loopw [58] (fun u wj => ∃ j : Nat, j ≤ na ∧ u = .int .i64 j ∧ Ext W wj ∧ (List.range j).all (fitAt a.terms r) = true) (fun u _ => na - (intOf u).toNat)
     case atStart => exact ⟨0, by omega, rfl, Below.refl _ _, by simp⟩
     case round =>
      obtain ⟨j, hj, rfl, hEj, hfj⟩ := hrel
      have HEJ := Lib.hid hEj
      have HFJ := Lib.hid hfj
      clear hfj hEj
      by_cases hlj : j < na
      ·have hji : (j : Int) < (na : Int) := by omega
       obtain ⟨t, bt, ot, hx, haa, hc1, hc2, hc3⟩ := (HT.out.keep (ext_trans EWW.out HEJ.out)).2.at hlj
       subst haa
       have HX := Lib.hid hx
       obtain ⟨y, b1, o1, hy, ha7, hy1⟩ := (RST.out.keep HEJ.out).2.at (i := j) (by have := HRNA.out; omega)
       subst ha7
       rw [Nat.mul_one] at hy1
       have g1 : wr.cell? ⟨b1, o1 + j, none⟩ = some (.string y) := hy1
       have HY : Hid (gt r j = y) := by show _ = _; unfold gt; rw [hy]; rfl
       clear hx hy hy1
       have k31 := keep HEJ.out g31
       gi_wp2
       obtain ⟨p12, hp12⟩ : ∃ p12, wr.heap.size = p12 := ⟨_, rfl⟩
       have EW1 : Ext wr (wr.alloc (.cells #[.int .i64 t.kind, .string t.text] 53)) := ext_alloc (Below.refl _ _) _
       have c120 : (wr.alloc (.cells #[.int .i64 t.kind, .string t.text] 53)).cell? ⟨p12, 0, none⟩ = some (.int .i64 t.kind) := by rw [← hp12]; go_simp
       have c121 : (wr.alloc (.cells #[.int .i64 t.kind, .string t.text] 53)).cell? ⟨p12, 1, none⟩ = some (.string t.text) := by rw [← hp12]; go_simp
       have d31 := keep EW1 k31
       have d1 := keep EW1 g1
       generalize wr.alloc (.cells #[.int .i64 t.kind, .string t.text] 53) = W1 at EW1 c120 c121 d31 d1 ⊢
       rw [hp12]
       clear hp12 k31 g1
       have mixed : Tryz.prog.follows .mixedOrders = true := by kernel_rfl
       have hjr : (j : Int) < (r.length : Int) := by have := HRNA.out; omega
       obtain ⟨x3, e3⟩ : ∃ b, (t.kind == 3) = b := ⟨_, rfl⟩
       obtain ⟨x1, e1⟩ : ∃ b, (t.kind == 1) = b := ⟨_, rfl⟩
       obtain ⟨c1, ec1⟩ : ∃ b, (y.toList == t.text.toList) = b := ⟨_, rfl⟩
       have EC1 : Hid (decide (y = t.text) = c1) := by show _ = _; rw [← ec1, beq_bytes]
       have FIT0 : Hid (∀ q : Bool, (x1 = true → decide (gt r (idxT a.terms t).toNat = gt r j) = q) → fitAt a.terms r j = !((x3 && !c1) || (x1 && !q))) := by
        intro q hq
        unfold fitAt
        rw [HX.out]
        have h3 : decide (t.kind = 3) = x3 := by rw [← e3]; rfl
        have h1 : decide (t.kind = 1) = x1 := by rw [← e1]; rfl
        simp only [h3, h1, HY.out, EC1.out]
        cases x1
        ·simp
        ·have := hq rfl
         rw [HY.out] at this
         rw [this]
       cases x3 with
       | true =>
        have e1 : (t.kind == 1) = false := by
         have : t.kind = 3 := by simpa using e3
         rw [this]
         rfl
        have hx1 : x1 = false := by rw [← ‹(t.kind == 1) = x1›, e1]
        subst hx1
        cases c1 with
        | false =>
         have FIT : fitAt a.terms r j = false := by rw [FIT0.out false (by simp)]; rfl
         refine region_in (fun w' => Ext W1 w') mixed (by kernel_rfl) (by rintro ⟨a, w, h⟩; exact h) (ext_drew (Below.refl _ _)) (fun hS0 => ?_)
         refine wpAnyH_take (i := 0) (oi := oa360) (v := ?_) rfl (by kernel_rfl) (by kernel_rfl) (by kernel_rfl) (fun _ _ _ h => h) (Or.inl ⟨by rfl, ?_⟩) (by assumption) ?_
         rotate_left
         focus (intro wS hS; go_simp; try with_reducible rfl)
         try simp only [Act.put, List.setIfInBounds_toArray, List.set_cons_zero, List.set_cons_succ]
         refine wpAnyH_take (i := 1) (oi := oa361) (v := ?_) rfl (by kernel_rfl) (by kernel_rfl) (by kernel_rfl) (fun _ _ _ h => h) (Or.inl ⟨by rfl, ?_⟩) (by assumption) ?_
         rotate_left
         focus (intro wS hS; have e0 := keep hS c120; have e1 := keep hS c121; have e2 := keep hS d31; have e3 := keep hS d1; go_simp; try with_reducible rfl)
         try simp only [Act.put, List.setIfInBounds_toArray, List.set_cons_zero, List.set_cons_succ]
         refine wpAnyH_take (i := 2) (oi := oa362) (v := ?_) rfl (by kernel_rfl) (by kernel_rfl) (by kernel_rfl) (fun _ _ _ h => h) (Or.inl ⟨by rfl, ?_⟩) (by assumption) ?_
         rotate_left
         focus (intro wS hS; go_simp; try with_reducible rfl)
         try simp only [Act.put, List.setIfInBounds_toArray, List.set_cons_zero, List.set_cons_succ]
         refine wpAnyH_take (i := 3) (oi := oa363) (v := ?_) rfl (by kernel_rfl) (by kernel_rfl) (by kernel_rfl) (fun _ _ _ h => h) (Or.inl ⟨by rfl, ?_⟩) (by assumption) ?_
         rotate_left
         focus (intro wS hS; go_simp; try with_reducible rfl)
         try simp only [Act.put, List.setIfInBounds_toArray, List.set_cons_zero, List.set_cons_succ]
         refine wpAnyH_take (i := 4) (oi := oa364) (v := ?_) rfl (by kernel_rfl) (by kernel_rfl) (by kernel_rfl) (fun _ _ _ h => h) (Or.inl ⟨by rfl, ?_⟩) (by assumption) ?_
         rotate_left
         focus (intro wS hS; go_simp; try with_reducible rfl)
         try simp only [Act.put, List.setIfInBounds_toArray, List.set_cons_zero, List.set_cons_succ]
         refine wpAnyH_take (i := 5) (oi := oa365) (v := ?_) rfl (by kernel_rfl) (by kernel_rfl) (by kernel_rfl) (fun _ _ _ h => h) (Or.inl ⟨by rfl, ?_⟩) (by assumption) ?_
         rotate_left
         focus (intro wS hS; go_simp; try with_reducible rfl)
         try simp only [Act.put, List.setIfInBounds_toArray, List.set_cons_zero, List.set_cons_succ]
         refine wpAnyH_take (i := 6) (oi := oa366) (v := ?_) rfl (by kernel_rfl) (by kernel_rfl) (by kernel_rfl) (fun _ _ _ h => h) (Or.inl ⟨by rfl, ?_⟩) (by assumption) ?_
         rotate_left
         focus (intro wS hS; go_simp; try with_reducible rfl)
         try simp only [Act.put, List.setIfInBounds_toArray, List.set_cons_zero, List.set_cons_succ]
         refine wpAnyH_take (i := 7) (oi := oa367) (v := ?_) rfl (by kernel_rfl) (by kernel_rfl) (by kernel_rfl) (fun _ _ _ h => h) (Or.inl ⟨by rfl, ?_⟩) (by assumption) ?_
         rotate_left
         focus (intro wS hS; have e0 := keep hS c120; have e1 := keep hS c121; have e2 := keep hS d31; have e3 := keep hS d1; go_simp; try with_reducible rfl)
         try simp only [Act.put, List.setIfInBounds_toArray, List.set_cons_zero, List.set_cons_succ]
         refine wpAnyH_take (i := 8) (oi := oa368) (v := ?_) rfl (by kernel_rfl) (by kernel_rfl) (by kernel_rfl) (fun _ _ _ h => h) (Or.inl ⟨by rfl, ?_⟩) (by assumption) ?_
         rotate_left
         focus (intro wS hS; go_simp; try with_reducible rfl)
         try simp only [Act.put, List.setIfInBounds_toArray, List.set_cons_zero, List.set_cons_succ]
         refine wpAnyH_take (i := 9) (oi := oa369) (v := ?_) rfl (by kernel_rfl) (by kernel_rfl) (by kernel_rfl) (fun _ _ _ h => h) (Or.inl ⟨by rfl, ?_⟩) (by assumption) ?_
         rotate_left
         focus (intro wS hS; have e0 := keep hS c120; have e1 := keep hS c121; have e2 := keep hS d31; have e3 := keep hS d1; go_simp; try with_reducible rfl)
         try simp only [Act.put, List.setIfInBounds_toArray, List.set_cons_zero, List.set_cons_succ]
         refine wpAnyH_take (i := 10) (oi := oa3610) (v := ?_) rfl (by kernel_rfl) (by kernel_rfl) (by kernel_rfl) (fun _ _ _ h => h) (Or.inl ⟨by rfl, ?_⟩) (by assumption) ?_
         rotate_left
         focus (intro wS hS; go_simp; try with_reducible rfl)
         try simp only [Act.put, List.setIfInBounds_toArray, List.set_cons_zero, List.set_cons_succ]
         refine wpAnyH_take (i := 11) (oi := oa3611) (v := ?_) rfl (by kernel_rfl) (by kernel_rfl) (by kernel_rfl) (fun _ _ _ h => h) (Or.inl ⟨by rfl, ?_⟩) (by assumption) ?_
         rotate_left
         focus (intro wS hS; go_simp; try with_reducible rfl)
         try simp only [Act.put, List.setIfInBounds_toArray, List.set_cons_zero, List.set_cons_succ]
         refine wpAnyH_take (i := 12) (oi := oa3612) (v := ?_) rfl (by kernel_rfl) (by kernel_rfl) (by kernel_rfl) (fun _ _ _ h => h) (Or.inl ⟨by rfl, ?_⟩) (by assumption) ?_
         rotate_left
         focus (intro wS hS; go_simp; try with_reducible rfl)
         try simp only [Act.put, List.setIfInBounds_toArray, List.set_cons_zero, List.set_cons_succ]
         refine wpAnyH_take (i := 13) (oi := oa3613) (v := undef) rfl (by kernel_rfl) (by kernel_rfl) (by kernel_rfl) (fun _ _ _ h => h) (Or.inr ⟨by rfl, rfl⟩) (by assumption) ?_
         try simp only [Act.put, List.setIfInBounds_toArray, List.set_cons_zero, List.set_cons_succ]
         refine wpAnyH_take (i := 14) (oi := oa3614) (v := undef) rfl (by kernel_rfl) (by kernel_rfl) (by kernel_rfl) (fun _ _ _ h => h) (Or.inr ⟨by rfl, rfl⟩) (by assumption) ?_
         try simp only [Act.put, List.setIfInBounds_toArray, List.set_cons_zero, List.set_cons_succ]
         refine wpAnyH_take (i := 15) (oi := oa3615) (v := undef) rfl (by kernel_rfl) (by kernel_rfl) (by kernel_rfl) (fun _ _ _ h => h) (Or.inr ⟨by rfl, rfl⟩) (by assumption) ?_
         try simp only [Act.put, List.setIfInBounds_toArray, List.set_cons_zero, List.set_cons_succ]
         refine wpAnyH_take (i := 16) (oi := oa3616) (v := undef) rfl (by kernel_rfl) (by kernel_rfl) (by kernel_rfl) (fun _ _ _ h => h) (Or.inr ⟨by rfl, rfl⟩) (by assumption) ?_
         try simp only [Act.put, List.setIfInBounds_toArray, List.set_cons_zero, List.set_cons_succ]
         refine wpAnyH_take (i := 17) (oi := oa3617) (v := undef) rfl (by kernel_rfl) (by kernel_rfl) (by kernel_rfl) (fun _ _ _ h => h) (Or.inr ⟨by rfl, rfl⟩) (by assumption) ?_
         try simp only [Act.put, List.setIfInBounds_toArray, List.set_cons_zero, List.set_cons_succ]
         refine wpAnyH_take (i := 18) (oi := oa3618) (v := undef) rfl (by kernel_rfl) (by kernel_rfl) (by kernel_rfl) (fun _ _ _ h => h) (Or.inr ⟨by rfl, rfl⟩) (by assumption) ?_
         try simp only [Act.put, List.setIfInBounds_toArray, List.set_cons_zero, List.set_cons_succ]
         refine wpAnyH_take (i := 19) (oi := oa3619) (v := undef) rfl (by kernel_rfl) (by kernel_rfl) (by kernel_rfl) (fun _ _ _ h => h) (Or.inr ⟨by rfl, rfl⟩) (by assumption) ?_
         try simp only [Act.put, List.setIfInBounds_toArray, List.set_cons_zero, List.set_cons_succ]
         refine wpAnyH_take (i := 20) (oi := oa3620) (v := undef) rfl (by kernel_rfl) (by kernel_rfl) (by kernel_rfl) (fun _ _ _ h => h) (Or.inr ⟨by rfl, rfl⟩) (by assumption) ?_
         try simp only [Act.put, List.setIfInBounds_toArray, List.set_cons_zero, List.set_cons_succ]
         refine wpAnyH_take (i := 21) (oi := oa3621) (v := undef) rfl (by kernel_rfl) (by kernel_rfl) (by kernel_rfl) (fun _ _ _ h => h) (Or.inr ⟨by rfl, rfl⟩) (by assumption) ?_
         try simp only [Act.put, List.setIfInBounds_toArray, List.set_cons_zero, List.set_cons_succ]
         refine wpAnyH_take (i := 22) (oi := oa3622) (v := undef) rfl (by kernel_rfl) (by kernel_rfl) (by kernel_rfl) (fun _ _ _ h => h) (Or.inr ⟨by rfl, rfl⟩) (by assumption) ?_
         try simp only [Act.put, List.setIfInBounds_toArray, List.set_cons_zero, List.set_cons_succ]
         refine wpAnyH_take (i := 23) (oi := oa3623) (v := undef) rfl (by kernel_rfl) (by kernel_rfl) (by kernel_rfl) (fun _ _ _ h => h) (Or.inr ⟨by rfl, rfl⟩) (by assumption) ?_
         try simp only [Act.put, List.setIfInBounds_toArray, List.set_cons_zero, List.set_cons_succ]
         refine wpAnyH_take (i := 24) (oi := oa3624) (v := undef) rfl (by kernel_rfl) (by kernel_rfl) (by kernel_rfl) (fun _ _ _ h => h) (Or.inr ⟨by rfl, rfl⟩) (by assumption) ?_
         try simp only [Act.put, List.setIfInBounds_toArray, List.set_cons_zero, List.set_cons_succ]
         refine wpAnyH_take (i := 25) (oi := oa3625) (v := undef) rfl (by kernel_rfl) (by kernel_rfl) (by kernel_rfl) (fun _ _ _ h => h) (Or.inr ⟨by rfl, rfl⟩) (by assumption) ?_
         try simp only [Act.put, List.setIfInBounds_toArray, List.set_cons_zero, List.set_cons_succ]
         refine wpAnyH_take (i := 26) (oi := oa3626) (v := undef) rfl (by kernel_rfl) (by kernel_rfl) (by kernel_rfl) (fun _ _ _ h => h) (Or.inr ⟨by rfl, rfl⟩) (by assumption) ?_
         try simp only [Act.put, List.setIfInBounds_toArray, List.set_cons_zero, List.set_cons_succ]
         refine wpAnyH_take (i := 27) (oi := oa3627) (v := undef) rfl (by kernel_rfl) (by kernel_rfl) (by kernel_rfl) (fun _ _ _ h => h) (Or.inr ⟨by rfl, rfl⟩) (by assumption) ?_
         try simp only [Act.put, List.setIfInBounds_toArray, List.set_cons_zero, List.set_cons_succ]
         refine wpAnyH_take (i := 28) (oi := oa3628) (v := undef) rfl (by kernel_rfl) (by kernel_rfl) (by kernel_rfl) (fun _ _ _ h => h) (Or.inr ⟨by rfl, rfl⟩) (by assumption) ?_
         try simp only [Act.put, List.setIfInBounds_toArray, List.set_cons_zero, List.set_cons_succ]
         refine wpAnyH_take (i := 29) (oi := oa3629) (v := undef) rfl (by kernel_rfl) (by kernel_rfl) (by kernel_rfl) (fun _ _ _ h => h) (Or.inr ⟨by rfl, rfl⟩) (by assumption) ?_
         try simp only [Act.put, List.setIfInBounds_toArray, List.set_cons_zero, List.set_cons_succ]
         refine wpAnyH_take (i := 30) (oi := oa3630) (v := ?_) rfl (by kernel_rfl) (by kernel_rfl) (by kernel_rfl) (fun _ _ _ h => h) (Or.inl ⟨by rfl, ?_⟩) (by assumption) ?_
         rotate_left
         focus (intro wS hS; go_simp; try with_reducible rfl)
         try simp only [Act.put, List.setIfInBounds_toArray, List.set_cons_zero, List.set_cons_succ]
         refine wpAnyH_done (by kernel_rfl) ?_ _
         gi_wp2
         exact EXF.out _ (ext_trans HEJ.out (ext_trans EW1 (ext_drew (Below.refl _ _)))) FIT
        | true =>
         have FIT : fitAt a.terms r j = true := by rw [FIT0.out true (by simp)]; rfl
         refine region_in (fun w' => Ext W1 w') mixed (by kernel_rfl) (by rintro ⟨a, w, h⟩; exact h) (ext_drew (Below.refl _ _)) (fun hS0 => ?_)
         refine wpAnyH_take (i := 0) (oi := oa360) (v := ?_) rfl (by kernel_rfl) (by kernel_rfl) (by kernel_rfl) (fun _ _ _ h => h) (Or.inl ⟨by rfl, ?_⟩) (by assumption) ?_
         rotate_left
         focus (intro wS hS; go_simp; try with_reducible rfl)
         try simp only [Act.put, List.setIfInBounds_toArray, List.set_cons_zero, List.set_cons_succ]
         refine wpAnyH_take (i := 1) (oi := oa361) (v := ?_) rfl (by kernel_rfl) (by kernel_rfl) (by kernel_rfl) (fun _ _ _ h => h) (Or.inl ⟨by rfl, ?_⟩) (by assumption) ?_
         rotate_left
         focus (intro wS hS; have e0 := keep hS c120; have e1 := keep hS c121; have e2 := keep hS d31; have e3 := keep hS d1; go_simp; try with_reducible rfl)
         try simp only [Act.put, List.setIfInBounds_toArray, List.set_cons_zero, List.set_cons_succ]
         refine wpAnyH_take (i := 2) (oi := oa362) (v := ?_) rfl (by kernel_rfl) (by kernel_rfl) (by kernel_rfl) (fun _ _ _ h => h) (Or.inl ⟨by rfl, ?_⟩) (by assumption) ?_
         rotate_left
         focus (intro wS hS; go_simp; try with_reducible rfl)
         try simp only [Act.put, List.setIfInBounds_toArray, List.set_cons_zero, List.set_cons_succ]
         refine wpAnyH_take (i := 3) (oi := oa363) (v := ?_) rfl (by kernel_rfl) (by kernel_rfl) (by kernel_rfl) (fun _ _ _ h => h) (Or.inl ⟨by rfl, ?_⟩) (by assumption) ?_
         rotate_left
         focus (intro wS hS; go_simp; try with_reducible rfl)
         try simp only [Act.put, List.setIfInBounds_toArray, List.set_cons_zero, List.set_cons_succ]
         refine wpAnyH_take (i := 4) (oi := oa364) (v := ?_) rfl (by kernel_rfl) (by kernel_rfl) (by kernel_rfl) (fun _ _ _ h => h) (Or.inl ⟨by rfl, ?_⟩) (by assumption) ?_
         rotate_left
         focus (intro wS hS; go_simp; try with_reducible rfl)
         try simp only [Act.put, List.setIfInBounds_toArray, List.set_cons_zero, List.set_cons_succ]
         refine wpAnyH_take (i := 5) (oi := oa365) (v := ?_) rfl (by kernel_rfl) (by kernel_rfl) (by kernel_rfl) (fun _ _ _ h => h) (Or.inl ⟨by rfl, ?_⟩) (by assumption) ?_
         rotate_left
         focus (intro wS hS; go_simp; try with_reducible rfl)
         try simp only [Act.put, List.setIfInBounds_toArray, List.set_cons_zero, List.set_cons_succ]
         refine wpAnyH_take (i := 6) (oi := oa366) (v := ?_) rfl (by kernel_rfl) (by kernel_rfl) (by kernel_rfl) (fun _ _ _ h => h) (Or.inl ⟨by rfl, ?_⟩) (by assumption) ?_
         rotate_left
         focus (intro wS hS; go_simp; try with_reducible rfl)
         try simp only [Act.put, List.setIfInBounds_toArray, List.set_cons_zero, List.set_cons_succ]
         refine wpAnyH_take (i := 7) (oi := oa367) (v := ?_) rfl (by kernel_rfl) (by kernel_rfl) (by kernel_rfl) (fun _ _ _ h => h) (Or.inl ⟨by rfl, ?_⟩) (by assumption) ?_
         rotate_left
         focus (intro wS hS; have e0 := keep hS c120; have e1 := keep hS c121; have e2 := keep hS d31; have e3 := keep hS d1; go_simp; try with_reducible rfl)
         try simp only [Act.put, List.setIfInBounds_toArray, List.set_cons_zero, List.set_cons_succ]
         refine wpAnyH_take (i := 8) (oi := oa368) (v := ?_) rfl (by kernel_rfl) (by kernel_rfl) (by kernel_rfl) (fun _ _ _ h => h) (Or.inl ⟨by rfl, ?_⟩) (by assumption) ?_
         rotate_left
         focus (intro wS hS; go_simp; try with_reducible rfl)
         try simp only [Act.put, List.setIfInBounds_toArray, List.set_cons_zero, List.set_cons_succ]
         refine wpAnyH_take (i := 9) (oi := oa369) (v := ?_) rfl (by kernel_rfl) (by kernel_rfl) (by kernel_rfl) (fun _ _ _ h => h) (Or.inl ⟨by rfl, ?_⟩) (by assumption) ?_
         rotate_left
         focus (intro wS hS; have e0 := keep hS c120; have e1 := keep hS c121; have e2 := keep hS d31; have e3 := keep hS d1; go_simp; try with_reducible rfl)
         try simp only [Act.put, List.setIfInBounds_toArray, List.set_cons_zero, List.set_cons_succ]
         refine wpAnyH_take (i := 10) (oi := oa3610) (v := ?_) rfl (by kernel_rfl) (by kernel_rfl) (by kernel_rfl) (fun _ _ _ h => h) (Or.inl ⟨by rfl, ?_⟩) (by assumption) ?_
         rotate_left
         focus (intro wS hS; go_simp; try with_reducible rfl)
         try simp only [Act.put, List.setIfInBounds_toArray, List.set_cons_zero, List.set_cons_succ]
         refine wpAnyH_take (i := 11) (oi := oa3611) (v := ?_) rfl (by kernel_rfl) (by kernel_rfl) (by kernel_rfl) (fun _ _ _ h => h) (Or.inl ⟨by rfl, ?_⟩) (by assumption) ?_
         rotate_left
         focus (intro wS hS; go_simp; try with_reducible rfl)
         try simp only [Act.put, List.setIfInBounds_toArray, List.set_cons_zero, List.set_cons_succ]
         refine wpAnyH_take (i := 12) (oi := oa3612) (v := ?_) rfl (by kernel_rfl) (by kernel_rfl) (by kernel_rfl) (fun _ _ _ h => h) (Or.inl ⟨by rfl, ?_⟩) (by assumption) ?_
         rotate_left
         focus (intro wS hS; go_simp; try with_reducible rfl)
         try simp only [Act.put, List.setIfInBounds_toArray, List.set_cons_zero, List.set_cons_succ]
         refine wpAnyH_take (i := 13) (oi := oa3613) (v := ?_) rfl (by kernel_rfl) (by kernel_rfl) (by kernel_rfl) (fun _ _ _ h => h) (Or.inl ⟨by rfl, ?_⟩) (by assumption) ?_
         rotate_left
         focus (intro wS hS; go_simp; try with_reducible rfl)
         try simp only [Act.put, List.setIfInBounds_toArray, List.set_cons_zero, List.set_cons_succ]
         refine wpAnyH_take (i := 14) (oi := oa3614) (v := ?_) rfl (by kernel_rfl) (by kernel_rfl) (by kernel_rfl) (fun _ _ _ h => h) (Or.inl ⟨by rfl, ?_⟩) (by assumption) ?_
         rotate_left
         focus (intro wS hS; have e0 := keep hS c120; have e1 := keep hS c121; have e2 := keep hS d31; have e3 := keep hS d1; go_simp; try with_reducible rfl)
         try simp only [Act.put, List.setIfInBounds_toArray, List.set_cons_zero, List.set_cons_succ]
         refine wpAnyH_take (i := 15) (oi := oa3615) (v := ?_) rfl (by kernel_rfl) (by kernel_rfl) (by kernel_rfl) (fun _ _ _ h => h) (Or.inl ⟨by rfl, ?_⟩) (by assumption) ?_
         rotate_left
         focus (intro wS hS; go_simp; try with_reducible rfl)
         try simp only [Act.put, List.setIfInBounds_toArray, List.set_cons_zero, List.set_cons_succ]
         refine wpAnyH_take (i := 16) (oi := oa3616) (v := ?_) rfl (by kernel_rfl) (by kernel_rfl) (by kernel_rfl) (fun _ _ _ h => h) (Or.inl ⟨by rfl, ?_⟩) (by assumption) ?_
         rotate_left
         focus (intro wS hS; go_simp; try with_reducible rfl)
         try simp only [Act.put, List.setIfInBounds_toArray, List.set_cons_zero, List.set_cons_succ]
         refine wpAnyH_take (i := 17) (oi := oa3617) (v := undef) rfl (by kernel_rfl) (by kernel_rfl) (by kernel_rfl) (fun _ _ _ h => h) (Or.inr ⟨by rfl, rfl⟩) (by assumption) ?_
         try simp only [Act.put, List.setIfInBounds_toArray, List.set_cons_zero, List.set_cons_succ]
         refine wpAnyH_take (i := 18) (oi := oa3618) (v := undef) rfl (by kernel_rfl) (by kernel_rfl) (by kernel_rfl) (fun _ _ _ h => h) (Or.inr ⟨by rfl, rfl⟩) (by assumption) ?_
         try simp only [Act.put, List.setIfInBounds_toArray, List.set_cons_zero, List.set_cons_succ]
         refine wpAnyH_take (i := 19) (oi := oa3619) (v := undef) rfl (by kernel_rfl) (by kernel_rfl) (by kernel_rfl) (fun _ _ _ h => h) (Or.inr ⟨by rfl, rfl⟩) (by assumption) ?_
         try simp only [Act.put, List.setIfInBounds_toArray, List.set_cons_zero, List.set_cons_succ]
         refine wpAnyH_take (i := 20) (oi := oa3620) (v := undef) rfl (by kernel_rfl) (by kernel_rfl) (by kernel_rfl) (fun _ _ _ h => h) (Or.inr ⟨by rfl, rfl⟩) (by assumption) ?_
         try simp only [Act.put, List.setIfInBounds_toArray, List.set_cons_zero, List.set_cons_succ]
         refine wpAnyH_take (i := 21) (oi := oa3621) (v := undef) rfl (by kernel_rfl) (by kernel_rfl) (by kernel_rfl) (fun _ _ _ h => h) (Or.inr ⟨by rfl, rfl⟩) (by assumption) ?_
         try simp only [Act.put, List.setIfInBounds_toArray, List.set_cons_zero, List.set_cons_succ]
         refine wpAnyH_take (i := 22) (oi := oa3622) (v := undef) rfl (by kernel_rfl) (by kernel_rfl) (by kernel_rfl) (fun _ _ _ h => h) (Or.inr ⟨by rfl, rfl⟩) (by assumption) ?_
         try simp only [Act.put, List.setIfInBounds_toArray, List.set_cons_zero, List.set_cons_succ]
         refine wpAnyH_take (i := 23) (oi := oa3623) (v := undef) rfl (by kernel_rfl) (by kernel_rfl) (by kernel_rfl) (fun _ _ _ h => h) (Or.inr ⟨by rfl, rfl⟩) (by assumption) ?_
         try simp only [Act.put, List.setIfInBounds_toArray, List.set_cons_zero, List.set_cons_succ]
         refine wpAnyH_take (i := 24) (oi := oa3624) (v := undef) rfl (by kernel_rfl) (by kernel_rfl) (by kernel_rfl) (fun _ _ _ h => h) (Or.inr ⟨by rfl, rfl⟩) (by assumption) ?_
         try simp only [Act.put, List.setIfInBounds_toArray, List.set_cons_zero, List.set_cons_succ]
         refine wpAnyH_take (i := 25) (oi := oa3625) (v := undef) rfl (by kernel_rfl) (by kernel_rfl) (by kernel_rfl) (fun _ _ _ h => h) (Or.inr ⟨by rfl, rfl⟩) (by assumption) ?_
         try simp only [Act.put, List.setIfInBounds_toArray, List.set_cons_zero, List.set_cons_succ]
         refine wpAnyH_take (i := 26) (oi := oa3626) (v := undef) rfl (by kernel_rfl) (by kernel_rfl) (by kernel_rfl) (fun _ _ _ h => h) (Or.inr ⟨by rfl, rfl⟩) (by assumption) ?_
         try simp only [Act.put, List.setIfInBounds_toArray, List.set_cons_zero, List.set_cons_succ]
         refine wpAnyH_take (i := 27) (oi := oa3627) (v := undef) rfl (by kernel_rfl) (by kernel_rfl) (by kernel_rfl) (fun _ _ _ h => h) (Or.inr ⟨by rfl, rfl⟩) (by assumption) ?_
         try simp only [Act.put, List.setIfInBounds_toArray, List.set_cons_zero, List.set_cons_succ]
         refine wpAnyH_take (i := 28) (oi := oa3628) (v := undef) rfl (by kernel_rfl) (by kernel_rfl) (by kernel_rfl) (fun _ _ _ h => h) (Or.inr ⟨by rfl, rfl⟩) (by assumption) ?_
         try simp only [Act.put, List.setIfInBounds_toArray, List.set_cons_zero, List.set_cons_succ]
         refine wpAnyH_take (i := 29) (oi := oa3629) (v := ?_) rfl (by kernel_rfl) (by kernel_rfl) (by kernel_rfl) (fun _ _ _ h => h) (Or.inl ⟨by rfl, ?_⟩) (by assumption) ?_
         rotate_left
         focus (intro wS hS; go_simp; try with_reducible rfl)
         try simp only [Act.put, List.setIfInBounds_toArray, List.set_cons_zero, List.set_cons_succ]
         refine wpAnyH_take (i := 30) (oi := oa3630) (v := ?_) rfl (by kernel_rfl) (by kernel_rfl) (by kernel_rfl) (fun _ _ _ h => h) (Or.inl ⟨by rfl, ?_⟩) (by assumption) ?_
         rotate_left
         focus (intro wS hS; go_simp; try with_reducible rfl)
         try simp only [Act.put, List.setIfInBounds_toArray, List.set_cons_zero, List.set_cons_succ]
         refine wpAnyH_done (by kernel_rfl) ?_ _
         have HX1 := Lib.hid (ext_trans HEJ.out (ext_trans EW1 (ext_drew (Below.refl _ _))))
         gi_wp2
         go_roundw
         case rel => exact ⟨j + 1, by omega, by go_num, HX1.out, by rw [List.range_succ, List.all_append, HFJ.out]; simp [FIT]⟩
         case measure => simp [intOf]; omega
       | false =>
        cases x1 with
        | false =>
         have FIT : fitAt a.terms r j = true := by rw [FIT0.out true (by simp)]; rfl
         cases c1
         all_goals
          refine region_in (fun w' => Ext W1 w') mixed (by kernel_rfl) (by rintro ⟨a, w, h⟩; exact h) (ext_drew (Below.refl _ _)) (fun hS0 => ?_)
          refine wpAnyH_take (i := 0) (oi := oa360) (v := ?_) rfl (by kernel_rfl) (by kernel_rfl) (by kernel_rfl) (fun _ _ _ h => h) (Or.inl ⟨by rfl, ?_⟩) (by assumption) ?_
          rotate_left
          focus (intro wS hS; go_simp; try with_reducible rfl)
          try simp only [Act.put, List.setIfInBounds_toArray, List.set_cons_zero, List.set_cons_succ]
          refine wpAnyH_take (i := 1) (oi := oa361) (v := ?_) rfl (by kernel_rfl) (by kernel_rfl) (by kernel_rfl) (fun _ _ _ h => h) (Or.inl ⟨by rfl, ?_⟩) (by assumption) ?_
          rotate_left
          focus (intro wS hS; have e0 := keep hS c120; have e1 := keep hS c121; have e2 := keep hS d31; have e3 := keep hS d1; go_simp; try with_reducible rfl)
          try simp only [Act.put, List.setIfInBounds_toArray, List.set_cons_zero, List.set_cons_succ]
          refine wpAnyH_take (i := 2) (oi := oa362) (v := ?_) rfl (by kernel_rfl) (by kernel_rfl) (by kernel_rfl) (fun _ _ _ h => h) (Or.inl ⟨by rfl, ?_⟩) (by assumption) ?_
          rotate_left
          focus (intro wS hS; go_simp; try with_reducible rfl)
          try simp only [Act.put, List.setIfInBounds_toArray, List.set_cons_zero, List.set_cons_succ]
          refine wpAnyH_take (i := 3) (oi := oa363) (v := ?_) rfl (by kernel_rfl) (by kernel_rfl) (by kernel_rfl) (fun _ _ _ h => h) (Or.inl ⟨by rfl, ?_⟩) (by assumption) ?_
          rotate_left
          focus (intro wS hS; go_simp; try with_reducible rfl)
          try simp only [Act.put, List.setIfInBounds_toArray, List.set_cons_zero, List.set_cons_succ]
          refine wpAnyH_take (i := 4) (oi := oa364) (v := undef) rfl (by kernel_rfl) (by kernel_rfl) (by kernel_rfl) (fun _ _ _ h => h) (Or.inr ⟨by rfl, rfl⟩) (by assumption) ?_
          try simp only [Act.put, List.setIfInBounds_toArray, List.set_cons_zero, List.set_cons_succ]
          refine wpAnyH_take (i := 5) (oi := oa365) (v := undef) rfl (by kernel_rfl) (by kernel_rfl) (by kernel_rfl) (fun _ _ _ h => h) (Or.inr ⟨by rfl, rfl⟩) (by assumption) ?_
          try simp only [Act.put, List.setIfInBounds_toArray, List.set_cons_zero, List.set_cons_succ]
          refine wpAnyH_take (i := 6) (oi := oa366) (v := undef) rfl (by kernel_rfl) (by kernel_rfl) (by kernel_rfl) (fun _ _ _ h => h) (Or.inr ⟨by rfl, rfl⟩) (by assumption) ?_
          try simp only [Act.put, List.setIfInBounds_toArray, List.set_cons_zero, List.set_cons_succ]
          refine wpAnyH_take (i := 7) (oi := oa367) (v := undef) rfl (by kernel_rfl) (by kernel_rfl) (by kernel_rfl) (fun _ _ _ h => h) (Or.inr ⟨by rfl, rfl⟩) (by assumption) ?_
          try simp only [Act.put, List.setIfInBounds_toArray, List.set_cons_zero, List.set_cons_succ]
          refine wpAnyH_take (i := 8) (oi := oa368) (v := undef) rfl (by kernel_rfl) (by kernel_rfl) (by kernel_rfl) (fun _ _ _ h => h) (Or.inr ⟨by rfl, rfl⟩) (by assumption) ?_
          try simp only [Act.put, List.setIfInBounds_toArray, List.set_cons_zero, List.set_cons_succ]
          refine wpAnyH_take (i := 9) (oi := oa369) (v := undef) rfl (by kernel_rfl) (by kernel_rfl) (by kernel_rfl) (fun _ _ _ h => h) (Or.inr ⟨by rfl, rfl⟩) (by assumption) ?_
          try simp only [Act.put, List.setIfInBounds_toArray, List.set_cons_zero, List.set_cons_succ]
          refine wpAnyH_take (i := 10) (oi := oa3610) (v := undef) rfl (by kernel_rfl) (by kernel_rfl) (by kernel_rfl) (fun _ _ _ h => h) (Or.inr ⟨by rfl, rfl⟩) (by assumption) ?_
          try simp only [Act.put, List.setIfInBounds_toArray, List.set_cons_zero, List.set_cons_succ]
          refine wpAnyH_take (i := 11) (oi := oa3611) (v := ?_) rfl (by kernel_rfl) (by kernel_rfl) (by kernel_rfl) (fun _ _ _ h => h) (Or.inl ⟨by rfl, ?_⟩) (by assumption) ?_
          rotate_left
          focus (intro wS hS; go_simp; try with_reducible rfl)
          try simp only [Act.put, List.setIfInBounds_toArray, List.set_cons_zero, List.set_cons_succ]
          refine wpAnyH_take (i := 12) (oi := oa3612) (v := ?_) rfl (by kernel_rfl) (by kernel_rfl) (by kernel_rfl) (fun _ _ _ h => h) (Or.inl ⟨by rfl, ?_⟩) (by assumption) ?_
          rotate_left
          focus (intro wS hS; go_simp; try with_reducible rfl)
          try simp only [Act.put, List.setIfInBounds_toArray, List.set_cons_zero, List.set_cons_succ]
          refine wpAnyH_take (i := 13) (oi := oa3613) (v := ?_) rfl (by kernel_rfl) (by kernel_rfl) (by kernel_rfl) (fun _ _ _ h => h) (Or.inl ⟨by rfl, ?_⟩) (by assumption) ?_
          rotate_left
          focus (intro wS hS; go_simp; try with_reducible rfl)
          try simp only [Act.put, List.setIfInBounds_toArray, List.set_cons_zero, List.set_cons_succ]
          refine wpAnyH_take (i := 14) (oi := oa3614) (v := ?_) rfl (by kernel_rfl) (by kernel_rfl) (by kernel_rfl) (fun _ _ _ h => h) (Or.inl ⟨by rfl, ?_⟩) (by assumption) ?_
          rotate_left
          focus (intro wS hS; have e0 := keep hS c120; have e1 := keep hS c121; have e2 := keep hS d31; have e3 := keep hS d1; go_simp; try with_reducible rfl)
          try simp only [Act.put, List.setIfInBounds_toArray, List.set_cons_zero, List.set_cons_succ]
          refine wpAnyH_take (i := 15) (oi := oa3615) (v := ?_) rfl (by kernel_rfl) (by kernel_rfl) (by kernel_rfl) (fun _ _ _ h => h) (Or.inl ⟨by rfl, ?_⟩) (by assumption) ?_
          rotate_left
          focus (intro wS hS; go_simp; try with_reducible rfl)
          try simp only [Act.put, List.setIfInBounds_toArray, List.set_cons_zero, List.set_cons_succ]
          refine wpAnyH_take (i := 16) (oi := oa3616) (v := ?_) rfl (by kernel_rfl) (by kernel_rfl) (by kernel_rfl) (fun _ _ _ h => h) (Or.inl ⟨by rfl, ?_⟩) (by assumption) ?_
          rotate_left
          focus (intro wS hS; go_simp; try with_reducible rfl)
          try simp only [Act.put, List.setIfInBounds_toArray, List.set_cons_zero, List.set_cons_succ]
          refine wpAnyH_take (i := 17) (oi := oa3617) (v := undef) rfl (by kernel_rfl) (by kernel_rfl) (by kernel_rfl) (fun _ _ _ h => h) (Or.inr ⟨by rfl, rfl⟩) (by assumption) ?_
          try simp only [Act.put, List.setIfInBounds_toArray, List.set_cons_zero, List.set_cons_succ]
          refine wpAnyH_take (i := 18) (oi := oa3618) (v := undef) rfl (by kernel_rfl) (by kernel_rfl) (by kernel_rfl) (fun _ _ _ h => h) (Or.inr ⟨by rfl, rfl⟩) (by assumption) ?_
          try simp only [Act.put, List.setIfInBounds_toArray, List.set_cons_zero, List.set_cons_succ]
          refine wpAnyH_take (i := 19) (oi := oa3619) (v := undef) rfl (by kernel_rfl) (by kernel_rfl) (by kernel_rfl) (fun _ _ _ h => h) (Or.inr ⟨by rfl, rfl⟩) (by assumption) ?_
          try simp only [Act.put, List.setIfInBounds_toArray, List.set_cons_zero, List.set_cons_succ]
          refine wpAnyH_take (i := 20) (oi := oa3620) (v := undef) rfl (by kernel_rfl) (by kernel_rfl) (by kernel_rfl) (fun _ _ _ h => h) (Or.inr ⟨by rfl, rfl⟩) (by assumption) ?_
          try simp only [Act.put, List.setIfInBounds_toArray, List.set_cons_zero, List.set_cons_succ]
          refine wpAnyH_take (i := 21) (oi := oa3621) (v := undef) rfl (by kernel_rfl) (by kernel_rfl) (by kernel_rfl) (fun _ _ _ h => h) (Or.inr ⟨by rfl, rfl⟩) (by assumption) ?_
          try simp only [Act.put, List.setIfInBounds_toArray, List.set_cons_zero, List.set_cons_succ]
          refine wpAnyH_take (i := 22) (oi := oa3622) (v := undef) rfl (by kernel_rfl) (by kernel_rfl) (by kernel_rfl) (fun _ _ _ h => h) (Or.inr ⟨by rfl, rfl⟩) (by assumption) ?_
          try simp only [Act.put, List.setIfInBounds_toArray, List.set_cons_zero, List.set_cons_succ]
          refine wpAnyH_take (i := 23) (oi := oa3623) (v := undef) rfl (by kernel_rfl) (by kernel_rfl) (by kernel_rfl) (fun _ _ _ h => h) (Or.inr ⟨by rfl, rfl⟩) (by assumption) ?_
          try simp only [Act.put, List.setIfInBounds_toArray, List.set_cons_zero, List.set_cons_succ]
          refine wpAnyH_take (i := 24) (oi := oa3624) (v := undef) rfl (by kernel_rfl) (by kernel_rfl) (by kernel_rfl) (fun _ _ _ h => h) (Or.inr ⟨by rfl, rfl⟩) (by assumption) ?_
          try simp only [Act.put, List.setIfInBounds_toArray, List.set_cons_zero, List.set_cons_succ]
          refine wpAnyH_take (i := 25) (oi := oa3625) (v := undef) rfl (by kernel_rfl) (by kernel_rfl) (by kernel_rfl) (fun _ _ _ h => h) (Or.inr ⟨by rfl, rfl⟩) (by assumption) ?_
          try simp only [Act.put, List.setIfInBounds_toArray, List.set_cons_zero, List.set_cons_succ]
          refine wpAnyH_take (i := 26) (oi := oa3626) (v := undef) rfl (by kernel_rfl) (by kernel_rfl) (by kernel_rfl) (fun _ _ _ h => h) (Or.inr ⟨by rfl, rfl⟩) (by assumption) ?_
          try simp only [Act.put, List.setIfInBounds_toArray, List.set_cons_zero, List.set_cons_succ]
          refine wpAnyH_take (i := 27) (oi := oa3627) (v := undef) rfl (by kernel_rfl) (by kernel_rfl) (by kernel_rfl) (fun _ _ _ h => h) (Or.inr ⟨by rfl, rfl⟩) (by assumption) ?_
          try simp only [Act.put, List.setIfInBounds_toArray, List.set_cons_zero, List.set_cons_succ]
          refine wpAnyH_take (i := 28) (oi := oa3628) (v := undef) rfl (by kernel_rfl) (by kernel_rfl) (by kernel_rfl) (fun _ _ _ h => h) (Or.inr ⟨by rfl, rfl⟩) (by assumption) ?_
          try simp only [Act.put, List.setIfInBounds_toArray, List.set_cons_zero, List.set_cons_succ]
          refine wpAnyH_take (i := 29) (oi := oa3629) (v := ?_) rfl (by kernel_rfl) (by kernel_rfl) (by kernel_rfl) (fun _ _ _ h => h) (Or.inl ⟨by rfl, ?_⟩) (by assumption) ?_
          rotate_left
          focus (intro wS hS; go_simp; try with_reducible rfl)
          try simp only [Act.put, List.setIfInBounds_toArray, List.set_cons_zero, List.set_cons_succ]
          refine wpAnyH_take (i := 30) (oi := oa3630) (v := ?_) rfl (by kernel_rfl) (by kernel_rfl) (by kernel_rfl) (fun _ _ _ h => h) (Or.inl ⟨by rfl, ?_⟩) (by assumption) ?_
          rotate_left
          focus (intro wS hS; go_simp; try with_reducible rfl)
          try simp only [Act.put, List.setIfInBounds_toArray, List.set_cons_zero, List.set_cons_succ]
          refine wpAnyH_done (by kernel_rfl) ?_ _
          have HX1 := Lib.hid (ext_trans HEJ.out (ext_trans EW1 (ext_drew (Below.refl _ _))))
          gi_wp2
          go_roundw
          case rel => exact ⟨j + 1, by omega, by go_num, HX1.out, by rw [List.range_succ, List.all_append, HFJ.out]; simp [FIT]⟩
          case measure => simp [intOf]; omega
        | true =>
         obtain ⟨kx, hkx, hkt⟩ := idxT_mem (List.mem_of_getElem? HX.out)
         have hkl : kx < na := by have := (List.getElem?_eq_some_iff.1 hkt).1; rw [HNA.out] at this; exact this
         obtain ⟨y2, b2, o2, hy2, hb2, hy3⟩ := (RST.out.keep HEJ.out).2.at (i := kx) (by have := HRNA.out; omega)
         cases hb2
         rw [Nat.mul_one] at hy3
         have d2 := keep EW1 (show wr.cell? ⟨b1, o1 + kx, none⟩ = some (.string y2) from hy3)
         have hkr : (kx : Int) < (r.length : Int) := by have := HRNA.out; omega
         have HY2 : Hid (gt r (idxT a.terms t).toNat = y2) := by
          show _ = _
          rw [hkx]
          unfold gt
          rw [show ((kx : Nat) : Int).toNat = kx by omega, hy2]
          rfl
         have IXT : Hid (Calls Tryz.prog 100 #[.slice (some ⟨bt, ot, none⟩) na ca, .agg #[.int .i64 t.kind, .string t.text]] W1.drew fun e w' => e = .returned (.int .i64 (kx : Nat)) ∧ Ext W1.drew w') := by
          have := c_indexT a.terms t (some ⟨bt, ot, none⟩) na ca W1.drew (HT.out.keep (ext_trans EWW.out (ext_trans HEJ.out (ext_trans EW1 (ext_drew (Below.refl _ _))))))
          rw [hkx] at this
          exact this
         obtain ⟨c2, ec2⟩ : ∃ b, (y2.toList == y.toList) = b := ⟨_, rfl⟩
         have HQ2 : Hid (decide (gt r (idxT a.terms t).toNat = gt r j) = c2) := by show _ = _; rw [HY2.out, HY.out, ← ec2, beq_bytes]
         clear hkt hy2 hy3 hkx
         cases c1
         all_goals
          cases c2 with
          | true =>
           have FIT : fitAt a.terms r j = true := by rw [FIT0.out true (fun _ => HQ2.out)]; rfl
           refine region_in (fun w' => Ext W1 w') mixed (by kernel_rfl) (by rintro ⟨a, w, h⟩; exact h) (ext_drew (Below.refl _ _)) (fun hS0 => ?_)
           refine wpAnyH_take (i := 0) (oi := oa360) (v := ?_) rfl (by kernel_rfl) (by kernel_rfl) (by kernel_rfl) (fun _ _ _ h => h) (Or.inl ⟨by rfl, ?_⟩) (by assumption) ?_
           rotate_left
           focus (intro wS hS; go_simp; try with_reducible rfl)
           try simp only [Act.put, List.setIfInBounds_toArray, List.set_cons_zero, List.set_cons_succ]
           refine wpAnyH_take (i := 1) (oi := oa361) (v := ?_) rfl (by kernel_rfl) (by kernel_rfl) (by kernel_rfl) (fun _ _ _ h => h) (Or.inl ⟨by rfl, ?_⟩) (by assumption) ?_
           rotate_left
           focus (intro wS hS; have e0 := keep hS c120; have e1 := keep hS c121; have e2 := keep hS d31; have e3 := keep hS d1; go_simp; try with_reducible rfl)
           try simp only [Act.put, List.setIfInBounds_toArray, List.set_cons_zero, List.set_cons_succ]
           refine wpAnyH_take (i := 2) (oi := oa362) (v := ?_) rfl (by kernel_rfl) (by kernel_rfl) (by kernel_rfl) (fun _ _ _ h => h) (Or.inl ⟨by rfl, ?_⟩) (by assumption) ?_
           rotate_left
           focus (intro wS hS; go_simp; try with_reducible rfl)
           try simp only [Act.put, List.setIfInBounds_toArray, List.set_cons_zero, List.set_cons_succ]
           refine wpAnyH_take (i := 3) (oi := oa363) (v := ?_) rfl (by kernel_rfl) (by kernel_rfl) (by kernel_rfl) (fun _ _ _ h => h) (Or.inl ⟨by rfl, ?_⟩) (by assumption) ?_
           rotate_left
           focus (intro wS hS; go_simp; try with_reducible rfl)
           try simp only [Act.put, List.setIfInBounds_toArray, List.set_cons_zero, List.set_cons_succ]
           refine wpAnyH_take (i := 4) (oi := oa364) (v := undef) rfl (by kernel_rfl) (by kernel_rfl) (by kernel_rfl) (fun _ _ _ h => h) (Or.inr ⟨by rfl, rfl⟩) (by assumption) ?_
           try simp only [Act.put, List.setIfInBounds_toArray, List.set_cons_zero, List.set_cons_succ]
           refine wpAnyH_take (i := 5) (oi := oa365) (v := undef) rfl (by kernel_rfl) (by kernel_rfl) (by kernel_rfl) (fun _ _ _ h => h) (Or.inr ⟨by rfl, rfl⟩) (by assumption) ?_
           try simp only [Act.put, List.setIfInBounds_toArray, List.set_cons_zero, List.set_cons_succ]
           refine wpAnyH_take (i := 6) (oi := oa366) (v := undef) rfl (by kernel_rfl) (by kernel_rfl) (by kernel_rfl) (fun _ _ _ h => h) (Or.inr ⟨by rfl, rfl⟩) (by assumption) ?_
           try simp only [Act.put, List.setIfInBounds_toArray, List.set_cons_zero, List.set_cons_succ]
           refine wpAnyH_take (i := 7) (oi := oa367) (v := undef) rfl (by kernel_rfl) (by kernel_rfl) (by kernel_rfl) (fun _ _ _ h => h) (Or.inr ⟨by rfl, rfl⟩) (by assumption) ?_
           try simp only [Act.put, List.setIfInBounds_toArray, List.set_cons_zero, List.set_cons_succ]
           refine wpAnyH_take (i := 8) (oi := oa368) (v := undef) rfl (by kernel_rfl) (by kernel_rfl) (by kernel_rfl) (fun _ _ _ h => h) (Or.inr ⟨by rfl, rfl⟩) (by assumption) ?_
           try simp only [Act.put, List.setIfInBounds_toArray, List.set_cons_zero, List.set_cons_succ]
           refine wpAnyH_take (i := 9) (oi := oa369) (v := undef) rfl (by kernel_rfl) (by kernel_rfl) (by kernel_rfl) (fun _ _ _ h => h) (Or.inr ⟨by rfl, rfl⟩) (by assumption) ?_
           try simp only [Act.put, List.setIfInBounds_toArray, List.set_cons_zero, List.set_cons_succ]
           refine wpAnyH_take (i := 10) (oi := oa3610) (v := undef) rfl (by kernel_rfl) (by kernel_rfl) (by kernel_rfl) (fun _ _ _ h => h) (Or.inr ⟨by rfl, rfl⟩) (by assumption) ?_
           try simp only [Act.put, List.setIfInBounds_toArray, List.set_cons_zero, List.set_cons_succ]
           refine wpAnyH_take (i := 11) (oi := oa3611) (v := ?_) rfl (by kernel_rfl) (by kernel_rfl) (by kernel_rfl) (fun _ _ _ h => h) (Or.inl ⟨by rfl, ?_⟩) (by assumption) ?_
           rotate_left
           focus (intro wS hS; go_simp; try with_reducible rfl)
           try simp only [Act.put, List.setIfInBounds_toArray, List.set_cons_zero, List.set_cons_succ]
           refine wpAnyH_take (i := 12) (oi := oa3612) (v := ?_) rfl (by kernel_rfl) (by kernel_rfl) (by kernel_rfl) (fun _ _ _ h => h) (Or.inl ⟨by rfl, ?_⟩) (by assumption) ?_
           rotate_left
           focus (intro wS hS; go_simp; try with_reducible rfl)
           try simp only [Act.put, List.setIfInBounds_toArray, List.set_cons_zero, List.set_cons_succ]
           refine wpAnyH_take (i := 13) (oi := oa3613) (v := ?_) rfl (by kernel_rfl) (by kernel_rfl) (by kernel_rfl) (fun _ _ _ h => h) (Or.inl ⟨by rfl, ?_⟩) (by assumption) ?_
           rotate_left
           focus (intro wS hS; go_simp; try with_reducible rfl)
           try simp only [Act.put, List.setIfInBounds_toArray, List.set_cons_zero, List.set_cons_succ]
           refine wpAnyH_take (i := 14) (oi := oa3614) (v := ?_) rfl (by kernel_rfl) (by kernel_rfl) (by kernel_rfl) (fun _ _ _ h => h) (Or.inl ⟨by rfl, ?_⟩) (by assumption) ?_
           rotate_left
           focus (intro wS hS; have e0 := keep hS c120; have e1 := keep hS c121; have e2 := keep hS d31; have e3 := keep hS d1; go_simp; try with_reducible rfl)
           try simp only [Act.put, List.setIfInBounds_toArray, List.set_cons_zero, List.set_cons_succ]
           refine wpAnyH_take (i := 15) (oi := oa3615) (v := ?_) rfl (by kernel_rfl) (by kernel_rfl) (by kernel_rfl) (fun _ _ _ h => h) (Or.inl ⟨by rfl, ?_⟩) (by assumption) ?_
           rotate_left
           focus (intro wS hS; go_simp; try with_reducible rfl)
           try simp only [Act.put, List.setIfInBounds_toArray, List.set_cons_zero, List.set_cons_succ]
           refine wpAnyH_take (i := 16) (oi := oa3616) (v := ?_) rfl (by kernel_rfl) (by kernel_rfl) (by kernel_rfl) (fun _ _ _ h => h) (Or.inl ⟨by rfl, ?_⟩) (by assumption) ?_
           rotate_left
           focus (intro wS hS; go_simp; try with_reducible rfl)
           try simp only [Act.put, List.setIfInBounds_toArray, List.set_cons_zero, List.set_cons_succ]
           refine wpAnyH_take (i := 17) (oi := oa3617) (v := ?_) rfl (by kernel_rfl) (by kernel_rfl) (by kernel_rfl) (fun _ _ _ h => h) (Or.inl ⟨by rfl, ?_⟩) (by assumption) ?_
           rotate_left
           focus (intro wS hS; go_simp; try with_reducible rfl)
           try simp only [Act.put, List.setIfInBounds_toArray, List.set_cons_zero, List.set_cons_succ]
           refine wpAnyH_take (i := 18) (oi := oa3618) (v := ?_) rfl (by kernel_rfl) (by kernel_rfl) (by kernel_rfl) (fun _ _ _ h => h) (Or.inl ⟨by rfl, ?_⟩) (by assumption) ?_
           rotate_left
           focus (intro wS hS; go_simp; try with_reducible rfl)
           try simp only [Act.put, List.setIfInBounds_toArray, List.set_cons_zero, List.set_cons_succ]
           refine wpAnyH_take (i := 19) (oi := oa3619) (v := ?_) rfl (by kernel_rfl) (by kernel_rfl) (by kernel_rfl) (fun _ _ _ h => h) (Or.inl ⟨by rfl, ?_⟩) (by assumption) ?_
           rotate_left
           focus (intro wS hS; have e0 := keep hS c120; have e1 := keep hS c121; have e2 := keep hS d31; have e3 := keep hS d1; go_simp; try with_reducible rfl)
           try simp only [Act.put, List.setIfInBounds_toArray, List.set_cons_zero, List.set_cons_succ]
           refine wpAnyH_take (i := 20) (oi := oa3620) (v := ?_) rfl (by kernel_rfl) (by kernel_rfl) (by kernel_rfl) (fun _ _ _ h => h) (Or.inl ⟨by rfl, ?_⟩) (by assumption) ?_
           rotate_left
           focus (intro wS hS; have e0 := keep hS c120; have e1 := keep hS c121; have e2 := keep hS d31; have e3 := keep hS d1; go_simp; try with_reducible rfl)
           try simp only [Act.put, List.setIfInBounds_toArray, List.set_cons_zero, List.set_cons_succ]
           refine wpAnyH_take (i := 24) (oi := oa3624) (v := ?_) rfl (by kernel_rfl) (by kernel_rfl) (by kernel_rfl) (fun _ _ _ h => h) (Or.inl ⟨by rfl, ?_⟩) (by assumption) ?_
           rotate_left
           focus (intro wS hS; go_simp; try with_reducible rfl)
           try simp only [Act.put, List.setIfInBounds_toArray, List.set_cons_zero, List.set_cons_succ]
           refine wpAnyH_take (i := 25) (oi := oa3625) (v := ?_) rfl (by kernel_rfl) (by kernel_rfl) (by kernel_rfl) (fun _ _ _ h => h) (Or.inl ⟨by rfl, ?_⟩) (by assumption) ?_
           rotate_left
           focus (intro wS hS; go_simp; try with_reducible rfl)
           try simp only [Act.put, List.setIfInBounds_toArray, List.set_cons_zero, List.set_cons_succ]
           refine wpAnyH_take (i := 26) (oi := oa3626) (v := ?_) rfl (by kernel_rfl) (by kernel_rfl) (by kernel_rfl) (fun _ _ _ h => h) (Or.inl ⟨by rfl, ?_⟩) (by assumption) ?_
           rotate_left
           focus (intro wS hS; go_simp; try with_reducible rfl)
           try simp only [Act.put, List.setIfInBounds_toArray, List.set_cons_zero, List.set_cons_succ]
           refine wpAnyH_take (i := 27) (oi := oa3627) (v := ?_) rfl (by kernel_rfl) (by kernel_rfl) (by kernel_rfl) (fun _ _ _ h => h) (Or.inl ⟨by rfl, ?_⟩) (by assumption) ?_
           rotate_left
           focus (intro wS hS; have e0 := keep hS c120; have e1 := keep hS c121; have e2 := keep hS d31; have e3 := keep hS d1; go_simp; try with_reducible rfl)
           try simp only [Act.put, List.setIfInBounds_toArray, List.set_cons_zero, List.set_cons_succ]
           refine wpAnyH_ready (rs := [21]) (by kernel_rfl) (by simp) ?_
           refine AllReadyH.cons rfl (fun K hK => ?_) AllReadyH.nil
           go_simp
           go_at_call 100; (with_reducible refine IXT.out.mono ?_); rintro e w9 ⟨rfl, e9⟩
           refine hK.out _ _ ?_ (fun hHeld => ?_)
           ·exact ext_trans hS0 e9
           clear hK K
           try simp only [Act.put, List.setIfInBounds_toArray, List.set_cons_zero, List.set_cons_succ]
           refine wpAnyH_take (i := 22) (oi := oa3622) (v := ?_) rfl (by kernel_rfl) (by kernel_rfl) (by kernel_rfl) (fun _ _ _ h => h) (Or.inl ⟨by rfl, ?_⟩) (by assumption) ?_
           rotate_left
           focus (intro wS hS; go_simp; try with_reducible rfl)
           try simp only [Act.put, List.setIfInBounds_toArray, List.set_cons_zero, List.set_cons_succ]
           refine wpAnyH_take (i := 23) (oi := oa3623) (v := ?_) rfl (by kernel_rfl) (by kernel_rfl) (by kernel_rfl) (fun _ _ _ h => h) (Or.inl ⟨by rfl, ?_⟩) (by assumption) ?_
           rotate_left
           focus (intro wS hS; have e0 := keep hS c120; have e1 := keep hS c121; have e2 := keep hS d31; have e3 := keep hS d1; have e4 := keep hS d2; go_simp; try with_reducible rfl)
           try simp only [Act.put, List.setIfInBounds_toArray, List.set_cons_zero, List.set_cons_succ]
           refine wpAnyH_take (i := 28) (oi := oa3628) (v := ?_) rfl (by kernel_rfl) (by kernel_rfl) (by kernel_rfl) (fun _ _ _ h => h) (Or.inl ⟨by rfl, ?_⟩) (by assumption) ?_
           rotate_left
           focus (intro wS hS; go_simp; try with_reducible rfl)
           try simp only [Act.put, List.setIfInBounds_toArray, List.set_cons_zero, List.set_cons_succ]
           refine wpAnyH_take (i := 29) (oi := oa3629) (v := ?_) rfl (by kernel_rfl) (by kernel_rfl) (by kernel_rfl) (fun _ _ _ h => h) (Or.inl ⟨by rfl, ?_⟩) (by assumption) ?_
           rotate_left
           focus (intro wS hS; go_simp; try with_reducible rfl)
           try simp only [Act.put, List.setIfInBounds_toArray, List.set_cons_zero, List.set_cons_succ]
           refine wpAnyH_take (i := 30) (oi := oa3630) (v := ?_) rfl (by kernel_rfl) (by kernel_rfl) (by kernel_rfl) (fun _ _ _ h => h) (Or.inl ⟨by rfl, ?_⟩) (by assumption) ?_
           rotate_left
           focus (intro wS hS; go_simp; try with_reducible rfl)
           try simp only [Act.put, List.setIfInBounds_toArray, List.set_cons_zero, List.set_cons_succ]
           refine wpAnyH_done (by kernel_rfl) ?_ _
           have HX1 := Lib.hid (ext_trans HEJ.out (ext_trans EW1 (ext_trans hS0 e9)))
           gi_wp2
           have HALLJ : Hid (∀ z, z < j + 1 → fitAt a.terms r z = true) := fun z hz => by
            rcases Nat.lt_or_ge z j with h | h
            ·exact List.all_eq_true.1 HFJ.out z (List.mem_range.2 h)
            ·obtain rfl : z = j := by omega
             exact FIT
           go_roundw
           case rel => exact ⟨_, _, .int .i64 ((j : Int) + 1), ⟨j + 1, by omega, by go_num, HX1.out, HALLJ.out⟩, rfl, rfl, rfl⟩
           case measure => simp [intOf]; omega
          | false =>
           have FIT : fitAt a.terms r j = false := by rw [FIT0.out false (fun _ => HQ2.out)]; rfl
           refine region_in (fun w' => Ext W1 w') mixed (by kernel_rfl) (by rintro ⟨a, w, h⟩; exact h) (ext_drew (Below.refl _ _)) (fun hS0 => ?_)
           refine wpAnyH_take (i := 0) (oi := oa360) (v := ?_) rfl (by kernel_rfl) (by kernel_rfl) (by kernel_rfl) (fun _ _ _ h => h) (Or.inl ⟨by rfl, ?_⟩) (by assumption) ?_
           rotate_left
           focus (intro wS hS; go_simp; try with_reducible rfl)
           try simp only [Act.put, List.setIfInBounds_toArray, List.set_cons_zero, List.set_cons_succ]
           refine wpAnyH_take (i := 1) (oi := oa361) (v := ?_) rfl (by kernel_rfl) (by kernel_rfl) (by kernel_rfl) (fun _ _ _ h => h) (Or.inl ⟨by rfl, ?_⟩) (by assumption) ?_
           rotate_left
           focus (intro wS hS; have e0 := keep hS c120; have e1 := keep hS c121; have e2 := keep hS d31; have e3 := keep hS d1; go_simp; try with_reducible rfl)
           try simp only [Act.put, List.setIfInBounds_toArray, List.set_cons_zero, List.set_cons_succ]
           refine wpAnyH_take (i := 2) (oi := oa362) (v := ?_) rfl (by kernel_rfl) (by kernel_rfl) (by kernel_rfl) (fun _ _ _ h => h) (Or.inl ⟨by rfl, ?_⟩) (by assumption) ?_
           rotate_left
           focus (intro wS hS; go_simp; try with_reducible rfl)
           try simp only [Act.put, List.setIfInBounds_toArray, List.set_cons_zero, List.set_cons_succ]
           refine wpAnyH_take (i := 3) (oi := oa363) (v := ?_) rfl (by kernel_rfl) (by kernel_rfl) (by kernel_rfl) (fun _ _ _ h => h) (Or.inl ⟨by rfl, ?_⟩) (by assumption) ?_
           rotate_left
           focus (intro wS hS; go_simp; try with_reducible rfl)
           try simp only [Act.put, List.setIfInBounds_toArray, List.set_cons_zero, List.set_cons_succ]
           refine wpAnyH_take (i := 4) (oi := oa364) (v := undef) rfl (by kernel_rfl) (by kernel_rfl) (by kernel_rfl) (fun _ _ _ h => h) (Or.inr ⟨by rfl, rfl⟩) (by assumption) ?_
           try simp only [Act.put, List.setIfInBounds_toArray, List.set_cons_zero, List.set_cons_succ]
           refine wpAnyH_take (i := 5) (oi := oa365) (v := undef) rfl (by kernel_rfl) (by kernel_rfl) (by kernel_rfl) (fun _ _ _ h => h) (Or.inr ⟨by rfl, rfl⟩) (by assumption) ?_
           try simp only [Act.put, List.setIfInBounds_toArray, List.set_cons_zero, List.set_cons_succ]
           refine wpAnyH_take (i := 6) (oi := oa366) (v := undef) rfl (by kernel_rfl) (by kernel_rfl) (by kernel_rfl) (fun _ _ _ h => h) (Or.inr ⟨by rfl, rfl⟩) (by assumption) ?_
           try simp only [Act.put, List.setIfInBounds_toArray, List.set_cons_zero, List.set_cons_succ]
           refine wpAnyH_take (i := 7) (oi := oa367) (v := undef) rfl (by kernel_rfl) (by kernel_rfl) (by kernel_rfl) (fun _ _ _ h => h) (Or.inr ⟨by rfl, rfl⟩) (by assumption) ?_
           try simp only [Act.put, List.setIfInBounds_toArray, List.set_cons_zero, List.set_cons_succ]
           refine wpAnyH_take (i := 8) (oi := oa368) (v := undef) rfl (by kernel_rfl) (by kernel_rfl) (by kernel_rfl) (fun _ _ _ h => h) (Or.inr ⟨by rfl, rfl⟩) (by assumption) ?_
           try simp only [Act.put, List.setIfInBounds_toArray, List.set_cons_zero, List.set_cons_succ]
           refine wpAnyH_take (i := 9) (oi := oa369) (v := undef) rfl (by kernel_rfl) (by kernel_rfl) (by kernel_rfl) (fun _ _ _ h => h) (Or.inr ⟨by rfl, rfl⟩) (by assumption) ?_
           try simp only [Act.put, List.setIfInBounds_toArray, List.set_cons_zero, List.set_cons_succ]
           refine wpAnyH_take (i := 10) (oi := oa3610) (v := undef) rfl (by kernel_rfl) (by kernel_rfl) (by kernel_rfl) (fun _ _ _ h => h) (Or.inr ⟨by rfl, rfl⟩) (by assumption) ?_
           try simp only [Act.put, List.setIfInBounds_toArray, List.set_cons_zero, List.set_cons_succ]
           refine wpAnyH_take (i := 11) (oi := oa3611) (v := ?_) rfl (by kernel_rfl) (by kernel_rfl) (by kernel_rfl) (fun _ _ _ h => h) (Or.inl ⟨by rfl, ?_⟩) (by assumption) ?_
           rotate_left
           focus (intro wS hS; go_simp; try with_reducible rfl)
           try simp only [Act.put, List.setIfInBounds_toArray, List.set_cons_zero, List.set_cons_succ]
           refine wpAnyH_take (i := 12) (oi := oa3612) (v := ?_) rfl (by kernel_rfl) (by kernel_rfl) (by kernel_rfl) (fun _ _ _ h => h) (Or.inl ⟨by rfl, ?_⟩) (by assumption) ?_
           rotate_left
           focus (intro wS hS; go_simp; try with_reducible rfl)
           try simp only [Act.put, List.setIfInBounds_toArray, List.set_cons_zero, List.set_cons_succ]
           refine wpAnyH_take (i := 13) (oi := oa3613) (v := ?_) rfl (by kernel_rfl) (by kernel_rfl) (by kernel_rfl) (fun _ _ _ h => h) (Or.inl ⟨by rfl, ?_⟩) (by assumption) ?_
           rotate_left
           focus (intro wS hS; go_simp; try with_reducible rfl)
           try simp only [Act.put, List.setIfInBounds_toArray, List.set_cons_zero, List.set_cons_succ]
           refine wpAnyH_take (i := 14) (oi := oa3614) (v := ?_) rfl (by kernel_rfl) (by kernel_rfl) (by kernel_rfl) (fun _ _ _ h => h) (Or.inl ⟨by rfl, ?_⟩) (by assumption) ?_
           rotate_left
           focus (intro wS hS; have e0 := keep hS c120; have e1 := keep hS c121; have e2 := keep hS d31; have e3 := keep hS d1; go_simp; try with_reducible rfl)
           try simp only [Act.put, List.setIfInBounds_toArray, List.set_cons_zero, List.set_cons_succ]
           refine wpAnyH_take (i := 15) (oi := oa3615) (v := ?_) rfl (by kernel_rfl) (by kernel_rfl) (by kernel_rfl) (fun _ _ _ h => h) (Or.inl ⟨by rfl, ?_⟩) (by assumption) ?_
           rotate_left
           focus (intro wS hS; go_simp; try with_reducible rfl)
           try simp only [Act.put, List.setIfInBounds_toArray, List.set_cons_zero, List.set_cons_succ]
           refine wpAnyH_take (i := 16) (oi := oa3616) (v := ?_) rfl (by kernel_rfl) (by kernel_rfl) (by kernel_rfl) (fun _ _ _ h => h) (Or.inl ⟨by rfl, ?_⟩) (by assumption) ?_
           rotate_left
           focus (intro wS hS; go_simp; try with_reducible rfl)
           try simp only [Act.put, List.setIfInBounds_toArray, List.set_cons_zero, List.set_cons_succ]
           refine wpAnyH_take (i := 17) (oi := oa3617) (v := ?_) rfl (by kernel_rfl) (by kernel_rfl) (by kernel_rfl) (fun _ _ _ h => h) (Or.inl ⟨by rfl, ?_⟩) (by assumption) ?_
           rotate_left
           focus (intro wS hS; go_simp; try with_reducible rfl)
           try simp only [Act.put, List.setIfInBounds_toArray, List.set_cons_zero, List.set_cons_succ]
           refine wpAnyH_take (i := 18) (oi := oa3618) (v := ?_) rfl (by kernel_rfl) (by kernel_rfl) (by kernel_rfl) (fun _ _ _ h => h) (Or.inl ⟨by rfl, ?_⟩) (by assumption) ?_
           rotate_left
           focus (intro wS hS; go_simp; try with_reducible rfl)
           try simp only [Act.put, List.setIfInBounds_toArray, List.set_cons_zero, List.set_cons_succ]
           refine wpAnyH_take (i := 19) (oi := oa3619) (v := ?_) rfl (by kernel_rfl) (by kernel_rfl) (by kernel_rfl) (fun _ _ _ h => h) (Or.inl ⟨by rfl, ?_⟩) (by assumption) ?_
           rotate_left
           focus (intro wS hS; have e0 := keep hS c120; have e1 := keep hS c121; have e2 := keep hS d31; have e3 := keep hS d1; go_simp; try with_reducible rfl)
           try simp only [Act.put, List.setIfInBounds_toArray, List.set_cons_zero, List.set_cons_succ]
           refine wpAnyH_take (i := 20) (oi := oa3620) (v := ?_) rfl (by kernel_rfl) (by kernel_rfl) (by kernel_rfl) (fun _ _ _ h => h) (Or.inl ⟨by rfl, ?_⟩) (by assumption) ?_
           rotate_left
           focus (intro wS hS; have e0 := keep hS c120; have e1 := keep hS c121; have e2 := keep hS d31; have e3 := keep hS d1; go_simp; try with_reducible rfl)
           try simp only [Act.put, List.setIfInBounds_toArray, List.set_cons_zero, List.set_cons_succ]
           refine wpAnyH_take (i := 24) (oi := oa3624) (v := ?_) rfl (by kernel_rfl) (by kernel_rfl) (by kernel_rfl) (fun _ _ _ h => h) (Or.inl ⟨by rfl, ?_⟩) (by assumption) ?_
           rotate_left
           focus (intro wS hS; go_simp; try with_reducible rfl)
           try simp only [Act.put, List.setIfInBounds_toArray, List.set_cons_zero, List.set_cons_succ]
           refine wpAnyH_take (i := 25) (oi := oa3625) (v := ?_) rfl (by kernel_rfl) (by kernel_rfl) (by kernel_rfl) (fun _ _ _ h => h) (Or.inl ⟨by rfl, ?_⟩) (by assumption) ?_
           rotate_left
           focus (intro wS hS; go_simp; try with_reducible rfl)
           try simp only [Act.put, List.setIfInBounds_toArray, List.set_cons_zero, List.set_cons_succ]
           refine wpAnyH_take (i := 26) (oi := oa3626) (v := ?_) rfl (by kernel_rfl) (by kernel_rfl) (by kernel_rfl) (fun _ _ _ h => h) (Or.inl ⟨by rfl, ?_⟩) (by assumption) ?_
           rotate_left
           focus (intro wS hS; go_simp; try with_reducible rfl)
           try simp only [Act.put, List.setIfInBounds_toArray, List.set_cons_zero, List.set_cons_succ]
           refine wpAnyH_take (i := 27) (oi := oa3627) (v := ?_) rfl (by kernel_rfl) (by kernel_rfl) (by kernel_rfl) (fun _ _ _ h => h) (Or.inl ⟨by rfl, ?_⟩) (by assumption) ?_
           rotate_left
           focus (intro wS hS; have e0 := keep hS c120; have e1 := keep hS c121; have e2 := keep hS d31; have e3 := keep hS d1; go_simp; try with_reducible rfl)
           try simp only [Act.put, List.setIfInBounds_toArray, List.set_cons_zero, List.set_cons_succ]
           refine wpAnyH_ready (rs := [21]) (by kernel_rfl) (by simp) ?_
           refine AllReadyH.cons rfl (fun K hK => ?_) AllReadyH.nil
           go_simp
           go_at_call 100; (with_reducible refine IXT.out.mono ?_); rintro e w9 ⟨rfl, e9⟩
           refine hK.out _ _ ?_ (fun hHeld => ?_)
           ·exact ext_trans hS0 e9
           clear hK K
           try simp only [Act.put, List.setIfInBounds_toArray, List.set_cons_zero, List.set_cons_succ]
           refine wpAnyH_take (i := 22) (oi := oa3622) (v := ?_) rfl (by kernel_rfl) (by kernel_rfl) (by kernel_rfl) (fun _ _ _ h => h) (Or.inl ⟨by rfl, ?_⟩) (by assumption) ?_
           rotate_left
           focus (intro wS hS; go_simp; try with_reducible rfl)
           try simp only [Act.put, List.setIfInBounds_toArray, List.set_cons_zero, List.set_cons_succ]
           refine wpAnyH_take (i := 23) (oi := oa3623) (v := ?_) rfl (by kernel_rfl) (by kernel_rfl) (by kernel_rfl) (fun _ _ _ h => h) (Or.inl ⟨by rfl, ?_⟩) (by assumption) ?_
           rotate_left
           focus (intro wS hS; have e0 := keep hS c120; have e1 := keep hS c121; have e2 := keep hS d31; have e3 := keep hS d1; have e4 := keep hS d2; go_simp; try with_reducible rfl)
           try simp only [Act.put, List.setIfInBounds_toArray, List.set_cons_zero, List.set_cons_succ]
           refine wpAnyH_take (i := 28) (oi := oa3628) (v := ?_) rfl (by kernel_rfl) (by kernel_rfl) (by kernel_rfl) (fun _ _ _ h => h) (Or.inl ⟨by rfl, ?_⟩) (by assumption) ?_
           rotate_left
           focus (intro wS hS; go_simp; try with_reducible rfl)
           try simp only [Act.put, List.setIfInBounds_toArray, List.set_cons_zero, List.set_cons_succ]
           refine wpAnyH_take (i := 29) (oi := oa3629) (v := ?_) rfl (by kernel_rfl) (by kernel_rfl) (by kernel_rfl) (fun _ _ _ h => h) (Or.inl ⟨by rfl, ?_⟩) (by assumption) ?_
           rotate_left
           focus (intro wS hS; go_simp; try with_reducible rfl)
           try simp only [Act.put, List.setIfInBounds_toArray, List.set_cons_zero, List.set_cons_succ]
           refine wpAnyH_take (i := 30) (oi := oa3630) (v := ?_) rfl (by kernel_rfl) (by kernel_rfl) (by kernel_rfl) (fun _ _ _ h => h) (Or.inl ⟨by rfl, ?_⟩) (by assumption) ?_
           rotate_left
           focus (intro wS hS; go_simp; try with_reducible rfl)
           try simp only [Act.put, List.setIfInBounds_toArray, List.set_cons_zero, List.set_cons_succ]
           refine wpAnyH_done (by kernel_rfl) ?_ _
           gi_wp2
           exact EXF.out _ (ext_trans HEJ.out (ext_trans EW1 (ext_trans hS0 e9))) FIT
      ·obtain rfl : j = na := by omega
       have hgj : ¬ (j : Int) < (j : Int) := by omega
       have FITS : Hid (fitsT a.terms r = true) := by
        show _ = _
        unfold fitsT
        rw [HNA.out]
        exact HFJ.out
       have hm64 : m ≤ 64 := by have h64 := H64.out; rw [HM.out] at h64; exact h64
       have k70 := keep HEJ.out g70
       have k71 := keep HEJ.out g71
       gi_wp2
       gi_loopw [13, 98] (fun v u wj => ∃ q : Nat, q ≤ m ∧ u = .int .i64 q ∧ Ext W wj ∧ wj.ownsRow W.heap.size 9 1 v q ((((tVars names a.terms).take q).map fun v => gt r (idxT a.terms (varT (gt names v))).toNat).map Value.string)) (fun _ u _ => m - (intOf u).toNat)
       case atStart => exact ⟨0, by omega, rfl, HEJ.out, World.ownsRow_nil _ _ _ _⟩
       case round =>
        obtain ⟨q, hq, rfl, hEq, hown⟩ := hrel
        have HEQ := Lib.hid hEq
        obtain ⟨ax, cx, hax, _⟩ := own_form hown
        subst hax
        have OWX := Lib.hid hown
        clear hEq hown
        by_cases hlq : q < m
        ·have hqi : (q : Int) < (m : Int) := by omega
         obtain ⟨vq, hvq⟩ : ∃ vq, (tVars names a.terms)[q]? = some vq := ⟨_, List.getElem?_eq_getElem (by rw [HM.out]; exact hlq)⟩
         have hvm := List.mem_of_getElem? hvq
         obtain ⟨hv1, hv2⟩ := List.mem_filter.1 hvm
         have hvn : vq < names.length := List.mem_range.1 hv1
         have hvt : varT (gt names vq) ∈ a.terms := of_decide_eq_true hv2
         obtain ⟨ga, hga⟩ : ∃ g, av = some ⟨g, 0, none⟩ := by
          obtain ⟨g, c', e, _⟩ := own_formS OW4.out (by omega)
          cases e
          exact ⟨g, rfl⟩
         subst hga
         have hcv : wr.cell? ⟨ga, q, none⟩ = some (.int .i64 (vq : Nat)) := by
          have h4 := OW4.out.cells (g := ga) rfl q (intN vq) (by rw [List.getElem?_map, hvq]; rfl)
          rw [Addr.add_lit, Nat.zero_add] at h4
          refine keep HEQ.out (h3.cell (fun e => ?_) h4)
          rcases e with e | e
          ·subst e
           exact (own_ty OW4.out rfl).ne V4.out.2 (by decide) rfl
          ·have := (OW4.out.lt ga rfl).2; omega
         obtain ⟨kx, hkx, hkt⟩ := idxT_mem hvt
         have hkl : kx < r.length := by have := (List.getElem?_eq_some_iff.1 hkt).1; rw [HNA.out] at this; have q := HRNA.out; omega
         obtain ⟨yo, b1, o1, hyo, ha7, hyo1⟩ := RST.out.2.at hkl
         subst ha7
         rw [Nat.mul_one] at hyo1
         have yx := keep HEQ.out (show W.cell? ⟨b1, o1 + kx, none⟩ = some (.string yo) from hyo1)
         have hb1 : b1 < W.heap.size := World.block_lt_of_cell? W ⟨b1, o1 + kx, none⟩ hyo1
         obtain ⟨nm, b2, o2, hnm, han, hnm1⟩ := (HS.out.keep EWW.out).2.at (i := vq) (by rw [← HNL.out]; exact hvn)
         subst han
         rw [Nat.mul_one] at hnm1
         have yn := keep HEQ.out (show W.cell? ⟨b2, o2 + vq, none⟩ = some (.string nm) from hnm1)
         have hb2 : b2 < W.heap.size := World.block_lt_of_cell? W ⟨b2, o2 + vq, none⟩ hnm1
         have GN : Hid (gt names vq = nm) := by show _ = _; unfold gt; rw [hnm]; rfl
         have HYO : Hid (gt r (idxT a.terms (varT (gt names vq))).toNat = yo) := by
          show _ = _
          rw [hkx]
          unfold gt
          rw [show ((kx : Nat) : Int).toNat = kx by omega, hyo]
          rfl
         have y31 := keep HEQ.out g31
         have y50 := keep HEQ.out g50
         have hW4W : w4.heap.size ≤ W.heap.size := h3.size
         have IXT : Hid (Calls Tryz.prog 100 #[.slice aa j ca, .agg #[.int .i64 1, .string nm]] wr.drew fun e w' => e = .returned (.int .i64 (kx : Nat)) ∧ Ext wr.drew w') := by
          have := c_indexT a.terms (varT nm) aa j ca wr.drew (HT.out.keep (ext_trans EWW.out (ext_trans HEQ.out (ext_drew (Below.refl _ _)))))
          rw [← GN.out, hkx] at this
          rw [← GN.out]
          exact this
         have YB : Hid (b2 < W.heap.size ∧ b1 < W.heap.size) := ⟨hb2, hb1⟩
         have HWZ : Hid (W.heap.size ≤ wr.heap.size) := HEQ.out.size
         have hkr : (kx : Int) < (r.length : Int) := by omega
         have hvi : (vq : Int) < (k : Int) := by rw [← HNL.out]; omega
         obtain ⟨outs, houts⟩ : ∃ outs, ((tVars names a.terms).take q).map (fun v => gt r (idxT a.terms (varT (gt names v))).toNat) = outs := ⟨_, rfl⟩
         have HOUTS : Hid (((tVars names a.terms).take (q + 1)).map (fun v => gt r (idxT a.terms (varT (gt names v))).toNat) = outs ++ [yo]) := by
          show _ = _
          rw [take_at hvq, List.map_append, houts]
          show outs ++ [gt r _] = _
          rw [HYO.out]
         rw [houts] at OWX
         have NT : ∀ {b}, b < W.heap.size → ¬ ((Value.slice ax q cx).ownBlock = some b) := fun hb e => by have := (OWX.out.lt _ e).1; omega
         have mixed : Tryz.prog.follows .mixedOrders = true := by kernel_rfl
         clear hkt hyo hyo1 hnm hnm1 hkx houts hvq hvm hv1 hv2 hvt
         gi_wp2
         refine region_in (fun w' => ButS (fun b => (Value.slice ax q cx).ownBlock = some b) wr w') mixed (by kernel_rfl) (by rintro ⟨a, w, h⟩; exact h) ((ButS.refl _ _).ext (ext_drew (Below.refl _ _))) (fun hS0 => ?_)
         refine wpAnyH_take (i := 0) (oi := oa3631) (v := ?_) rfl (by kernel_rfl) (by kernel_rfl) (by kernel_rfl) (fun _ _ _ h => h) (Or.inl ⟨by rfl, ?_⟩) (by assumption) ?_
         rotate_left
         focus (intro wS hS; go_simp; try with_reducible rfl)
         try simp only [Act.put, List.setIfInBounds_toArray, List.set_cons_zero, List.set_cons_succ]
         refine wpAnyH_take (i := 1) (oi := oa3632) (v := ?_) rfl (by kernel_rfl) (by kernel_rfl) (by kernel_rfl) (fun _ _ _ h => h) (Or.inl ⟨by rfl, ?_⟩) (by assumption) ?_
         rotate_left
         focus (intro wS hS; go_simp; try with_reducible rfl)
         try simp only [Act.put, List.setIfInBounds_toArray, List.set_cons_zero, List.set_cons_succ]
         refine wpAnyH_take (i := 2) (oi := oa3633) (v := ?_) rfl (by kernel_rfl) (by kernel_rfl) (by kernel_rfl) (fun _ _ _ h => h) (Or.inl ⟨by rfl, ?_⟩) (by assumption) ?_
         rotate_left
         focus (intro wS hS; go_simp; try with_reducible rfl)
         try simp only [Act.put, List.setIfInBounds_toArray, List.set_cons_zero, List.set_cons_succ]
         refine wpAnyH_take (i := 3) (oi := oa3634) (v := ?_) rfl (by kernel_rfl) (by kernel_rfl) (by kernel_rfl) (fun _ _ _ h => h) (Or.inl ⟨by rfl, ?_⟩) (by assumption) ?_
         rotate_left
         focus (intro wS hS; have e0 := hS.cell (NT (by omega)) y31; have e1 := hS.cell (NT (by omega)) y50; have e2 := hS.cell (NT YB.out.1) yn; have e3 := hS.cell (NT YB.out.2) yx; go_simp; try with_reducible rfl)
         try simp only [Act.put, List.setIfInBounds_toArray, List.set_cons_zero, List.set_cons_succ]
         refine wpAnyH_take (i := 4) (oi := oa3635) (v := ?_) rfl (by kernel_rfl) (by kernel_rfl) (by kernel_rfl) (fun _ _ _ h => h) (Or.inl ⟨by rfl, ?_⟩) (by assumption) ?_
         rotate_left
         focus (intro wS hS; have e0 := hS.cell (NT (by omega)) y31; have e1 := hS.cell (NT (by omega)) y50; have e2 := hS.cell (NT YB.out.1) yn; have e3 := hS.cell (NT YB.out.2) yx; go_simp; try with_reducible rfl)
         try simp only [Act.put, List.setIfInBounds_toArray, List.set_cons_zero, List.set_cons_succ]
         refine wpAnyH_take (i := 5) (oi := oa3636) (v := ?_) rfl (by kernel_rfl) (by kernel_rfl) (by kernel_rfl) (fun _ _ _ h => h) (Or.inl ⟨by rfl, ?_⟩) (by assumption) ?_
         rotate_left
         focus (intro wS hS; go_simp; try with_reducible rfl)
         try simp only [Act.put, List.setIfInBounds_toArray, List.set_cons_zero, List.set_cons_succ]
         refine wpAnyH_take (i := 6) (oi := oa3637) (v := ?_) rfl (by kernel_rfl) (by kernel_rfl) (by kernel_rfl) (fun _ _ _ h => h) (Or.inl ⟨by rfl, ?_⟩) (by assumption) ?_
         rotate_left
         focus (intro wS hS; go_simp; try with_reducible rfl)
         try simp only [Act.put, List.setIfInBounds_toArray, List.set_cons_zero, List.set_cons_succ]
         refine wpAnyH_take (i := 7) (oi := oa3638) (v := ?_) rfl (by kernel_rfl) (by kernel_rfl) (by kernel_rfl) (fun _ _ _ h => h) (Or.inl ⟨by rfl, ?_⟩) (by assumption) ?_
         rotate_left
         focus (intro wS hS; have e0 := hS.cell (NT (by omega)) y31; have e1 := hS.cell (NT (by omega)) y50; have e2 := hS.cell (NT YB.out.1) yn; have e3 := hS.cell (NT YB.out.2) yx; go_simp; try with_reducible rfl)
         try simp only [Act.put, List.setIfInBounds_toArray, List.set_cons_zero, List.set_cons_succ]
         refine wpAnyH_take (i := 8) (oi := oa3639) (v := ?_) rfl (by kernel_rfl) (by kernel_rfl) (by kernel_rfl) (fun _ _ _ h => h) (Or.inl ⟨by rfl, ?_⟩) (by assumption) ?_
         rotate_left
         focus (intro wS hS; go_simp; try with_reducible rfl)
         try simp only [Act.put, List.setIfInBounds_toArray, List.set_cons_zero, List.set_cons_succ]
         refine wpAnyH_ready (rs := [9]) (by kernel_rfl) (by simp) ?_
         refine AllReadyH.cons rfl (fun K hK => ?_) AllReadyH.nil
         go_simp
         go_at_call 100; (with_reducible refine IXT.out.mono ?_); rintro e w9 ⟨rfl, e9⟩
         have S9 : ButS (fun b => (Value.slice ax q cx).ownBlock = some b) wr w9 := hS0.ext e9
         refine hK.out _ _ ?_ (fun hHeld => ?_)
         ·exact S9
         clear hK K
         try simp only [Act.put, List.setIfInBounds_toArray, List.set_cons_zero, List.set_cons_succ]
         refine wpAnyH_take (i := 10) (oi := oa3640) (v := ?_) rfl (by kernel_rfl) (by kernel_rfl) (by kernel_rfl) (fun _ _ _ h => h) (Or.inl ⟨by rfl, ?_⟩) (by assumption) ?_
         rotate_left
         focus (intro wS hS; go_simp; try with_reducible rfl)
         try simp only [Act.put, List.setIfInBounds_toArray, List.set_cons_zero, List.set_cons_succ]
         refine wpAnyH_take (i := 11) (oi := oa3641) (v := ?_) rfl (by kernel_rfl) (by kernel_rfl) (by kernel_rfl) (fun _ _ _ h => h) (Or.inl ⟨by rfl, ?_⟩) (by assumption) ?_
         rotate_left
         focus (intro wS hS; have e0 := hS.cell (NT (by omega)) y31; have e1 := hS.cell (NT (by omega)) y50; have e2 := hS.cell (NT YB.out.1) yn; have e3 := hS.cell (NT YB.out.2) yx; go_simp; try with_reducible rfl)
         try simp only [Act.put, List.setIfInBounds_toArray, List.set_cons_zero, List.set_cons_succ]
         refine wpAnyH_ready (rs := [12]) (by kernel_rfl) (by simp) ?_
         refine AllReadyH.cons rfl (fun K hK => ?_) AllReadyH.nil
         go_simp
         refine hK.out _ _ ?_ (fun hHeld2 => ?_)
         ·exact S9.alloc _
         clear hK K
         try simp only [Act.put, List.setIfInBounds_toArray, List.set_cons_zero, List.set_cons_succ]
         refine wpAnyH_ready (rs := [13]) (by kernel_rfl) (by simp) ?_
         refine AllReadyH.cons rfl (fun K hK => ?_) AllReadyH.nil
         refine step_push_str w9 yo W.heap.size ax q cx outs (up_ext (up_ext OWX.out (ext_drew (Below.refl _ _))) e9) (by have h64 := H64.out; rw [HM.out] at h64; omega) (Nat.le_trans HWZ.out S9.size) rfl _ _ rfl rfl rfl ?_
         intro g8 c8 w8 own8 gr8
         have S8 : ButS (fun b => (Value.slice ax q cx).ownBlock = some b) wr w8 := (S9.alloc _).grown gr8 (fun b e => .inl e)
         refine hK.out _ _ ?_ (fun hHeld3 => ?_)
         ·exact S8
         clear hK K
         try simp only [Act.put, List.setIfInBounds_toArray, List.set_cons_zero, List.set_cons_succ]
         refine wpAnyH_take (i := 14) (oi := oa3642) (v := ?_) rfl (by kernel_rfl) (by kernel_rfl) (by kernel_rfl) (fun _ _ _ h => h) (Or.inl ⟨by rfl, ?_⟩) (by assumption) ?_
         rotate_left
         focus (intro wS hS; go_simp; try with_reducible rfl)
         try simp only [Act.put, List.setIfInBounds_toArray, List.set_cons_zero, List.set_cons_succ]
         refine wpAnyH_done (by kernel_rfl) ?_ _
         gi_wp2
         go_roundw
         case rel =>
          refine ⟨q + 1, by omega, by go_num, ext_of_but HEQ.out S8 (fun b hb e => NT hb e), ?_⟩
          rw [HOUTS.out]
          exact own8
         case measure => simp [intOf]; omega
        ·obtain rfl : q = m := by omega
         have hgq : ¬ (q : Int) < (q : Int) := by omega
         have hfull : ((tVars names a.terms).take q).map (fun v => gt r (idxT a.terms (varT (gt names v))).toNat) = outT names a.terms (tVars names a.terms) r := by
          rw [List.take_of_length_le (by have := HM.out; omega)]
          rfl
         rw [hfull] at OWX
         have hol : (outT names a.terms (tVars names a.terms) r).length = q := by unfold outT; rw [List.length_map, HM.out]
         have z71 := keep HEQ.out g71
         have ROK := Lib.hid (laid_ok names a.terms (nthRows rs pre) H64.out)
         rw [HM.out] at ROK
         have h1q := h1.ext HEQ.out
         have OST : StrsAt wr ax q (outT names a.terms (tVars names a.terms) r) := own_strs OWX.out (own_len OWX.out).1
         have ADR := Lib.hid (c_addR2 w4.heap.size pr q (laidRows names a.terms (nthRows rs pre)) (outT names a.terms (tVars names a.terms) r) ax q cx wr h1q ROK.out.up OST (cap_of_own OWX.out).2 (by omega) ROK.out.few (Nat.le_trans h3.size HEQ.out.size))
         have STP : Hid (laidRows names a.terms (nthRows rs (pre ++ [x])) = addTo q (laidRows names a.terms (nthRows rs pre)) (outT names a.terms (tVars names a.terms) r)) := by
          show _ = _
          rw [nthRows_snoc rs pre x hr1]
          unfold laidRows
          rw [List.foldl_append]
          show laidStep names a.terms _ r = _
          unfold laidStep
          rw [if_pos ⟨by rw [HNA.out]; exact HRNA.out, FITS.out⟩, HM.out]
         have TQ := Lib.hid (h2.ext HEQ.out)
         have VQ := Lib.hid h1q
         clear hfull hol h1q OST
         gi_wp2_with (first
          | (refine ⟨trivial, ?_⟩; gi_at_call 30; refine (CallsIn.inRound l (callsIn_wide.2 ADR.out)).mono ?_; rintro e w9 ⟨rfl, v9, f9⟩))
         have KF : KeepsFrom w4.heap.size wr w9 := keeps_but f9.but (fun b hb => by
          rcases hb with rfl | hb
          ·exact ⟨_, TQ.out⟩
          ·exact ⟨_, (VQ.out.item_ty hb).1⟩)
         obtain ⟨cs, xx, tq⟩ := TQ.out
         obtain ⟨cs', tq'⟩ := f9.typ cs _ xx tq
         have BQ : ButS (fun b => b = pr ∨ w4.heap.size ≤ b) wr w9 := f9.but.mono fun b _ hb => by
          rcases hb with rfl | hb
          ·exact .inl rfl
          ·exact .inr (VQ.out.item_ty hb).2
         exact ⟨((KeepsOthers.ext HEQ.out).from _).trans KF, ((ButS.refl _ W).ext HEQ.out).trans BQ, by rw [STP.out]; exact v9, ⟨cs', xx, tq'⟩, h3.trans (((ButS.refl _ W).ext HEQ.out).trans BQ)⟩
    ·have hne2 : ((r.length : Int) != (na : Int)) = true := by simp; omega
     have e0 := h3.cell (np (by omega)) F6.out.1.1
     have e1 := h3.cell (np (by omega)) F6.out.2.1
     have e2 := frozen_but h3 (np (by omega)) (by omega) F6.out.1.2
     have e3 := frozen_but h3 (np (by omega)) (by omega) F6.out.2.2
     gi_wp2
     obtain ⟨q1, q2⟩ := LEQ W _ h1 h2 h3
     refine ⟨q1, rfl, ?_⟩
     have hl : ∀ r ∈ rs, r.length ≠ a.terms.length := fun r' hr' => by rw [(hall r' hr').1, ← hrla, HT.out.2.1]; exact hne
     rw [laid_none (fun r' hr' => hl r' (nthRows_mem hr'))] at q2
     rw [laid_none hl]
     exact q2
end Go.Proofs.YtpgbenijjodoeaaGreat
