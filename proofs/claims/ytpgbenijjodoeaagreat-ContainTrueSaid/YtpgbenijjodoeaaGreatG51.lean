/- The walk of the law ContainTrue. -/
import Derived.Test.YtpgbenijjodoeaaGreatG49
import Derived.Test.YtpgbenijjodoeaaGreatG50
namespace Go.Proofs.YtpgbenijjodoeaaGreat
open Go.ChangeShapes Go.WideShapes Go.ChangeAt Go.RowKit Go.Shelf
open K (Term Atom Rule TermsAt LitsAt RuleV termAt litAt laid plain)
abbrev oa510 : Oper := { dst := some 41, op := Go.Op.move (Go.Operand.tmp 10), type := 30, pos := "outright.go:96", after := #[], guard := none }
abbrev oa511 : Oper := { dst := some 42, op := Go.Op.call { callee := Go.Callee.value (Go.Operand.func 7), args := #[Go.Operand.tmp 41], argTypes := #[30] }, type := 3, pos := "outright.go:96", after := #[{ on := 0, ground := Go.Ground.data }], guard := none }
abbrev oa512 : Oper := { dst := some 43, op := Go.Op.binOp Go.BinOp.eql 3 (Go.Operand.tmp 42) (Go.Operand.const (Go.Value.int Go.IntKind.i64 0)) 3, type := 4, pos := "outright.go:96", after := #[{ on := 1, ground := Go.Ground.data }], guard := none }
abbrev oa513 : Oper := { dst := some 44, op := Go.Op.move (Go.Operand.tmp 43), type := 4, pos := "outright.go:96", after := #[{ on := 2, ground := Go.Ground.data }, { on := 1, ground := Go.Ground.chain }], guard := none }
abbrev oa514 : Oper := { dst := some 45, op := Go.Op.move (Go.Operand.tmp 7), type := 4, pos := "outright.go:96", after := #[{ on := 3, ground := Go.Ground.guard }], guard := some (3, true) }
abbrev oa515 : Oper := { dst := some 46, op := Go.Op.pick (Go.Operand.tmp 44) (Go.Operand.tmp 45) (Go.Operand.const (Go.Value.bool false)), type := 4, pos := "outright.go:96", after := #[{ on := 3, ground := Go.Ground.data }, { on := 4, ground := Go.Ground.data }], guard := none }
abbrev oa516 : Oper := { dst := some 47, op := Go.Op.move (Go.Operand.tmp 46), type := 4, pos := "outright.go:96", after := #[{ on := 5, ground := Go.Ground.data }, { on := 3, ground := Go.Ground.chain }], guard := none }
abbrev oa517 : Oper := { dst := some 48, op := Go.Op.move (Go.Operand.tmp 9), type := 35, pos := "outright.go:96", after := #[{ on := 6, ground := Go.Ground.guard }], guard := some (6, true) }
abbrev oa518 : Oper := { dst := some 49, op := Go.Op.call { callee := Go.Callee.value (Go.Operand.func 10), args := #[Go.Operand.tmp 48], argTypes := #[35] }, type := 3, pos := "outright.go:96", after := #[{ on := 7, ground := Go.Ground.data }, { on := 6, ground := Go.Ground.chain }, { on := 6, ground := Go.Ground.guard }], guard := some (6, true) }
abbrev oa519 : Oper := { dst := some 50, op := Go.Op.fieldAddr 27 (Go.Operand.tmp 3) 1, type := 0, pos := "outright.go:96", after := #[{ on := 6, ground := Go.Ground.guard }], guard := some (6, true) }
abbrev oa5110 : Oper := { dst := some 51, op := Go.Op.load 25 (Go.Operand.tmp 50), type := 25, pos := "outright.go:96", after := #[{ on := 9, ground := Go.Ground.data }, { on := 6, ground := Go.Ground.guard }], guard := some (6, true) }
abbrev oa5111 : Oper := { dst := some 52, op := Go.Op.call { callee := Go.Callee.builtin Go.Builtin.len, args := #[Go.Operand.tmp 51], argTypes := #[25] }, type := 3, pos := "outright.go:96", after := #[{ on := 10, ground := Go.Ground.data }, { on := 6, ground := Go.Ground.guard }], guard := some (6, true) }
abbrev oa5112 : Oper := { dst := some 53, op := Go.Op.call { callee := Go.Callee.value (Go.Operand.func 9), args := #[Go.Operand.tmp 49, Go.Operand.tmp 52], argTypes := #[3, 3] }, type := 4, pos := "outright.go:96", after := #[{ on := 8, ground := Go.Ground.data }, { on := 11, ground := Go.Ground.data }, { on := 8, ground := Go.Ground.chain }, { on := 6, ground := Go.Ground.guard }], guard := some (6, true) }
abbrev oa5113 : Oper := { dst := some 54, op := Go.Op.pick (Go.Operand.tmp 47) (Go.Operand.tmp 53) (Go.Operand.const (Go.Value.bool false)), type := 4, pos := "outright.go:96", after := #[{ on := 6, ground := Go.Ground.data }, { on := 12, ground := Go.Ground.data }], guard := none }
abbrev oa5114 : Oper := { dst := some 55, op := Go.Op.move (Go.Operand.tmp 54), type := 4, pos := "outright.go:96", after := #[{ on := 13, ground := Go.Ground.data }, { on := 12, ground := Go.Ground.chain }], guard := none }
abbrev oa5115 : Oper := { dst := some 56, op := Go.Op.move (Go.Operand.tmp 9), type := 35, pos := "outright.go:96", after := #[{ on := 14, ground := Go.Ground.guard }], guard := some (14, true) }
abbrev oa5116 : Oper := { dst := some 57, op := Go.Op.call { callee := Go.Callee.value (Go.Operand.func 10), args := #[Go.Operand.tmp 56], argTypes := #[35] }, type := 3, pos := "outright.go:96", after := #[{ on := 15, ground := Go.Ground.data }, { on := 14, ground := Go.Ground.chain }, { on := 14, ground := Go.Ground.guard }], guard := some (14, true) }
abbrev oa5117 : Oper := { dst := some 58, op := Go.Op.fieldAddr 27 (Go.Operand.tmp 4) 1, type := 0, pos := "outright.go:96", after := #[{ on := 14, ground := Go.Ground.guard }], guard := some (14, true) }
abbrev oa5118 : Oper := { dst := some 59, op := Go.Op.load 25 (Go.Operand.tmp 58), type := 25, pos := "outright.go:96", after := #[{ on := 17, ground := Go.Ground.data }, { on := 14, ground := Go.Ground.guard }], guard := some (14, true) }
abbrev oa5119 : Oper := { dst := some 60, op := Go.Op.call { callee := Go.Callee.builtin Go.Builtin.len, args := #[Go.Operand.tmp 59], argTypes := #[25] }, type := 3, pos := "outright.go:96", after := #[{ on := 18, ground := Go.Ground.data }, { on := 14, ground := Go.Ground.guard }], guard := some (14, true) }
abbrev oa5120 : Oper := { dst := some 61, op := Go.Op.call { callee := Go.Callee.value (Go.Operand.func 9), args := #[Go.Operand.tmp 57, Go.Operand.tmp 60], argTypes := #[3, 3] }, type := 4, pos := "outright.go:96", after := #[{ on := 16, ground := Go.Ground.data }, { on := 19, ground := Go.Ground.data }, { on := 16, ground := Go.Ground.chain }, { on := 14, ground := Go.Ground.guard }], guard := some (14, true) }
abbrev oa5121 : Oper := { dst := some 62, op := Go.Op.pick (Go.Operand.tmp 55) (Go.Operand.tmp 61) (Go.Operand.const (Go.Value.bool false)), type := 4, pos := "outright.go:96", after := #[{ on := 14, ground := Go.Ground.data }, { on := 20, ground := Go.Ground.data }], guard := none }
abbrev oa5122 : Oper := { dst := some 118, op := Go.Op.move (Go.Operand.tmp 18), type := 4, pos := "outright.go:111", after := #[], guard := none }
abbrev oa5123 : Oper := { dst := some 119, op := Go.Op.unOp Go.UnOp.not 4 (Go.Operand.tmp 118), type := 4, pos := "outright.go:111", after := #[{ on := 0, ground := Go.Ground.data }], guard := none }
abbrev oa5124 : Oper := { dst := some 120, op := Go.Op.move (Go.Operand.tmp 119), type := 4, pos := "outright.go:111", after := #[{ on := 1, ground := Go.Ground.data }], guard := none }
abbrev oa5125 : Oper := { dst := some 121, op := Go.Op.load 27 (Go.Operand.tmp 3), type := 27, pos := "outright.go:111", after := #[{ on := 2, ground := Go.Ground.guard }], guard := some (2, false) }
abbrev oa5126 : Oper := { dst := some 122, op := Go.Op.call { callee := Go.Callee.value (Go.Operand.func 15), args := #[Go.Operand.tmp 121], argTypes := #[27] }, type := 4, pos := "outright.go:111", after := #[{ on := 3, ground := Go.Ground.data }, { on := 2, ground := Go.Ground.chain }, { on := 2, ground := Go.Ground.guard }], guard := some (2, false) }
abbrev oa5127 : Oper := { dst := some 123, op := Go.Op.unOp Go.UnOp.not 4 (Go.Operand.tmp 122), type := 4, pos := "outright.go:111", after := #[{ on := 4, ground := Go.Ground.data }, { on := 2, ground := Go.Ground.guard }], guard := some (2, false) }
abbrev oa5128 : Oper := { dst := some 124, op := Go.Op.pick (Go.Operand.tmp 120) (Go.Operand.const (Go.Value.bool true)) (Go.Operand.tmp 123), type := 4, pos := "outright.go:111", after := #[{ on := 2, ground := Go.Ground.data }, { on := 5, ground := Go.Ground.data }], guard := none }
abbrev oa5129 : Oper := { dst := some 125, op := Go.Op.move (Go.Operand.tmp 124), type := 4, pos := "outright.go:111", after := #[{ on := 6, ground := Go.Ground.data }, { on := 4, ground := Go.Ground.chain }], guard := none }
abbrev oa5130 : Oper := { dst := some 126, op := Go.Op.load 27 (Go.Operand.tmp 4), type := 27, pos := "outright.go:111", after := #[{ on := 7, ground := Go.Ground.guard }], guard := some (7, false) }
abbrev oa5131 : Oper := { dst := some 127, op := Go.Op.call { callee := Go.Callee.value (Go.Operand.func 15), args := #[Go.Operand.tmp 126], argTypes := #[27] }, type := 4, pos := "outright.go:111", after := #[{ on := 8, ground := Go.Ground.data }, { on := 7, ground := Go.Ground.chain }, { on := 7, ground := Go.Ground.guard }], guard := some (7, false) }
abbrev oa5132 : Oper := { dst := some 128, op := Go.Op.unOp Go.UnOp.not 4 (Go.Operand.tmp 127), type := 4, pos := "outright.go:111", after := #[{ on := 9, ground := Go.Ground.data }, { on := 7, ground := Go.Ground.guard }], guard := some (7, false) }
abbrev oa5133 : Oper := { dst := some 129, op := Go.Op.pick (Go.Operand.tmp 125) (Go.Operand.const (Go.Value.bool true)) (Go.Operand.tmp 128), type := 4, pos := "outright.go:111", after := #[{ on := 7, ground := Go.Ground.data }, { on := 10, ground := Go.Ground.data }], guard := none }
abbrev oa5134 : Oper := { dst := some 130, op := Go.Op.move (Go.Operand.tmp 129), type := 4, pos := "outright.go:111", after := #[{ on := 11, ground := Go.Ground.data }, { on := 9, ground := Go.Ground.chain }], guard := none }
abbrev oa5135 : Oper := { dst := some 131, op := Go.Op.move (Go.Operand.tmp 16), type := 35, pos := "outright.go:111", after := #[{ on := 12, ground := Go.Ground.guard }], guard := some (12, false) }
abbrev oa5136 : Oper := { dst := some 132, op := Go.Op.call { callee := Go.Callee.value (Go.Operand.func 10), args := #[Go.Operand.tmp 131], argTypes := #[35] }, type := 3, pos := "outright.go:111", after := #[{ on := 13, ground := Go.Ground.data }, { on := 12, ground := Go.Ground.chain }, { on := 12, ground := Go.Ground.guard }], guard := some (12, false) }
abbrev oa5137 : Oper := { dst := some 133, op := Go.Op.fieldAddr 27 (Go.Operand.tmp 4) 1, type := 0, pos := "outright.go:111", after := #[{ on := 12, ground := Go.Ground.guard }], guard := some (12, false) }
abbrev oa5138 : Oper := { dst := some 134, op := Go.Op.load 25 (Go.Operand.tmp 133), type := 25, pos := "outright.go:111", after := #[{ on := 15, ground := Go.Ground.data }, { on := 12, ground := Go.Ground.guard }], guard := some (12, false) }
abbrev oa5139 : Oper := { dst := some 135, op := Go.Op.call { callee := Go.Callee.builtin Go.Builtin.len, args := #[Go.Operand.tmp 134], argTypes := #[25] }, type := 3, pos := "outright.go:111", after := #[{ on := 16, ground := Go.Ground.data }, { on := 12, ground := Go.Ground.guard }], guard := some (12, false) }
abbrev oa5140 : Oper := { dst := some 136, op := Go.Op.call { callee := Go.Callee.value (Go.Operand.func 9), args := #[Go.Operand.tmp 132, Go.Operand.tmp 135], argTypes := #[3, 3] }, type := 4, pos := "outright.go:111", after := #[{ on := 14, ground := Go.Ground.data }, { on := 17, ground := Go.Ground.data }, { on := 14, ground := Go.Ground.chain }, { on := 12, ground := Go.Ground.guard }], guard := some (12, false) }
abbrev oa5141 : Oper := { dst := some 137, op := Go.Op.unOp Go.UnOp.not 4 (Go.Operand.tmp 136), type := 4, pos := "outright.go:111", after := #[{ on := 18, ground := Go.Ground.data }, { on := 12, ground := Go.Ground.guard }], guard := some (12, false) }
abbrev oa5142 : Oper := { dst := some 138, op := Go.Op.pick (Go.Operand.tmp 130) (Go.Operand.const (Go.Value.bool true)) (Go.Operand.tmp 137), type := 4, pos := "outright.go:111", after := #[{ on := 12, ground := Go.Ground.data }, { on := 19, ground := Go.Ground.data }], guard := none }
attribute [local go_sem] Oper.semAt_some
theorem c_own2 (r : Rule) (ah : Option Addr) (nh ch : Nat) (ab : Option Addr) (nb cb : Nat) (w : World) (hr : RuleV w r ah nh ch ab nb cb) :
  Calls Tryz.prog 6 #[.agg #[.string r.head.pred, .slice ah nh ch, .slice ab nb cb]] w fun e w' => ∃ ah' ch' ab' cb', e = .returned (.agg #[.string r.head.pred, .slice ah' nh ch', .slice ab' nb cb']) ∧ RuleV w' r ah' nh ch' ab' nb cb' ∧ Ext w w' := by
 refine (K.c_own r ah nh ch ab nb cb w hr).mono fun e w' h => ?_
 obtain ⟨gh, c1, gb, c2, rfl, ho, hb⟩ := h
 exact ⟨_, _, _, _, rfl, ho.rule hr, hb⟩
theorem laid_err {r s : Rule} (h : (laid r s).1 ≠ 0) : (laid r s).2.isSome = false := by
 cases hl : (laid r s).2 with
 | none => rfl
 | some l => exact absurd (K.laid_zero hl) h
theorem facts_one {r : Rule} {nh : Nat} {f : RelM} {e : Ending} {w : World} (h : e = .returned (.tuple #[.pointer none, .int .i64 4]) ∨ ∃ pr rows, e = .returned (.tuple #[.pointer (some ⟨pr, 0, none⟩), .int .i64 0]) ∧ RowsV w (pr + 1) pr nh rows ∧ RelOk nh rows ∧ ∀ y, y ∈ rows ↔ Derives r f y) :
  ∃ p q, e = .returned (.tuple #[.pointer p, .int .i64 q]) ∧ (q = 4 ∨ q = 0 ∧ ∃ pr rows, p = some ⟨pr, 0, none⟩ ∧ RowsV w (pr + 1) pr nh rows ∧ RelOk nh rows ∧ ∀ y, y ∈ rows ↔ Derives r f y) := by
 rcases h with h | ⟨pr, rows, h, h2⟩
 ·exact ⟨_, _, h, .inl rfl⟩
 ·exact ⟨_, _, h, .inr ⟨rfl, pr, rows, rfl, h2⟩⟩
theorem froz_one {r : Rule} {nh : Nat} {w w' : World} {e : Ending} (h : FrozPost r nh w e w') : Ext w w' ∧ ∃ pc a n c ok, e = .returned (.tuple #[.pointer pc, .slice a n c, .bool ok]) ∧ (ok = true → n = nh ∧ ∃ lo bb f, pc = some ⟨bb, 0, none⟩ ∧ BaseV w' lo bb f ∧ BodyL r.body (frBody r.body).2.2 f ∧ StrsAt w' a nh (frRow (frBody r.body).1 (frBody r.body).2.1 r.head.terms).2.2) := by
 obtain ⟨h1, h | ⟨lo, bb, f, a, c, h, h2, _, h4, h5, _⟩⟩ := h
 ·exact ⟨h1, _, _, _, _, _, h, fun q => by cases q⟩
 ·exact ⟨h1, _, _, _, _, _, h, fun _ => ⟨rfl, lo, bb, f, rfl, h2, h4, h5⟩⟩
/-- What is deferred: nothing, or the mark of a range over a function. -/
def DefOk (w0 : World) (ds : List Deferred) (w : World) : Prop := ds = [] ∨ ∃ D, w0.heap.size ≤ D ∧ ds = [{ target := .collected D, args := #[] }] ∧ w.heap[D]? = some (.deferred (some []))
theorem DefOk.ext {w0 w w' : World} {ds : List Deferred} (h : DefOk w0 ds w) (e : Ext w w') : DefOk w0 ds w' := by
 rcases h with h | ⟨D, h1, h2, h3⟩
 ·exact .inl h
 ·exact .inr ⟨D, h1, h2, (e.block D (Array.getElem?_eq_some_iff.1 h3).1).trans h3⟩
theorem leave_true {w0 w : World} {tmps : Array Value} {ds : List Deferred} {b : Nat} (h6 : tmps.getD 6 undef = .pointer (some ⟨b, 0, none⟩)) (hb : w0.heap.size ≤ b) (c : ∃ v, w.cell? ⟨b, 0, none⟩ = some v) (hds : DefOk w0 ds w) (hE : Ext w0 w) : LeavesInM Fence.wide 5 Tryz.prog Tryz.f3 tmps (fun e w' => e = .returned (.bool true) ∧ Ext w0 w') ds .returning (w.setCell ⟨b, 0, none⟩ (.bool true)) := by
 have e6 : tmps[6]?.getD undef = .pointer (some ⟨b, 0, none⟩) := by rw [← h6]; simp
 have res : ∀ W : World, W.cell? ⟨b, 0, none⟩ = some (.bool true) → (results Tryz.f3 tmps).run Tryz.prog W = .ok (.bool true) W := fun W hW => by
  simp only [results, Tryz.f3]
  go_simp
 obtain ⟨v, hv⟩ := c
 have hs := World.cell?_setCell_same w ⟨b, 0, none⟩ (.bool true) hv
 have hE2 : Ext w0 (w.setCell ⟨b, 0, none⟩ (.bool true)) := ext_set hE hb _
 rcases hds with rfl | ⟨D, h1, rfl, h3⟩
 ·exact ⟨_, res _ hs, rfl, hE2⟩
 ·have hDb : D ≠ b := by
   rintro rfl
   simp [World.cell?, h3] at hv
  have h4 : (w.setCell ⟨b, 0, none⟩ (.bool true)).heap[D]? = some (.deferred (some [])) := (Below.heap_setCell _ _ _ _ hDb).trans h3
  refine ⟨by simp, .inl ⟨_, _, rfl, run_takeDeferred h4, ?_⟩⟩
  generalize w.setCell ⟨b, 0, none⟩ (.bool true) = w2 at hs hE2 h4 ⊢
  have BD := ButS.putObj (S := fun b => b = D) w2 (.deferred none) rfl
  exact ⟨_, res _ (BD.cell (fun q => hDb q.symm) hs), rfl, ext_of_but hE2 BD (fun x hx q => by omega)⟩
set_option maxRecDepth 100000 in
set_option maxHeartbeats 40000000 in
theorem c_cont (r s : Rule) (xs : List RelA) (ah : Option Addr) (nh ch : Nat) (ab : Option Addr) (nb cb : Nat) (ah' : Option Addr) (nh' ch' : Nat) (ab' : Option Addr) (nb' cb' : Nat) (al : Option Addr) (nl cl : Nat) (w : World) (hr : RuleV w r ah nh ch ab nb cb) (hs : RuleV w s ah' nh' ch' ab' nb' cb') (hl : RelsAt w al nl xs) :
  Calls Tryz.prog 3 #[.agg #[.string r.head.pred, .slice ah nh ch, .slice ab nb cb], .agg #[.string s.head.pred, .slice ah' nh' ch', .slice ab' nb' cb'], .slice al nl cl] w fun e w' => e = .returned (.bool true) ∧ Ext w w' := by
 have HR := Lib.hid hr
 have HS := Lib.hid hs
 have HL := Lib.hid hl
 clear hr hs hl
 refine (callsIn_wide (n := 5)).1 ?_
 refine callsIn_of_wp_marks Tryz.func3 rfl trivial ?_
 simp only [Tryz.ntmps3, List.size_toArray, List.length_cons, List.length_nil, Nat.reduceAdd, Nat.reduceSub, Array.replicate_succ, Array.replicate_zero, List.push_toArray, List.append_toArray, List.nil_append, List.cons_append]
 refine wpIn_wide.2 ?_
 go_upto_region 1 with (fail)
 refine wp_gen (fun W0 hW => ?_)
 have hb0 : Ext w W0 := by rw [hW]; go_grown
 have rc0 : W0.cell? ⟨w.heap.size, 0, none⟩ = some (.string r.head.pred) := by rw [hW]; go_simp
 have rc1 : W0.cell? ⟨w.heap.size, 1, none⟩ = some (.slice ah nh ch) := by rw [hW]; go_simp
 have rc2 : W0.cell? ⟨w.heap.size, 2, none⟩ = some (.slice ab nb cb) := by rw [hW]; go_simp
 have sc0 : W0.cell? ⟨w.heap.size + 1, 0, none⟩ = some (.string s.head.pred) := by rw [hW]; go_simp
 have sc1 : W0.cell? ⟨w.heap.size + 1, 1, none⟩ = some (.slice ah' nh' ch') := by rw [hW]; go_simp
 have sc2 : W0.cell? ⟨w.heap.size + 1, 2, none⟩ = some (.slice ab' nb' cb') := by rw [hW]; go_simp
 have tc : W0.cell? ⟨w.heap.size + 1 + 1, 0, none⟩ = some (.bool false) := by rw [hW]; go_simp
 have tf : W0.frozen? ⟨w.heap.size + 1 + 1, 0, none⟩ = false := by rw [hW]; go_simp
 have TF : Hid (∀ W, Ext W0 W → (∃ v, W.cell? ⟨w.heap.size + 1 + 1, 0, none⟩ = some v) ∧ W.frozen? ⟨w.heap.size + 1 + 1, 0, none⟩ = false) := fun W e => ⟨⟨_, keep e tc⟩, (e.frozen (p := ⟨w.heap.size + 1 + 1, 0, none⟩) (World.block_lt_of_cell? W0 ⟨w.heap.size + 1 + 1, 0, none⟩ tc)).trans tf⟩
 clear hW tf
 have BW0 : Hid (Ext w W0) := hb0
 go_upto_region 3 with (go_at_call 4; (with_reducible refine (K.c_known _).mono ?_); rintro e w1 ⟨rfl, h1⟩; have rc0 := keep h1 rc0; have rc1 := keep h1 rc1; have rc2 := keep h1 rc2; have sc0 := keep h1 sc0; have sc1 := keep h1 sc1; have sc2 := keep h1 sc2)
 have HB := Lib.hid (ext_trans hb0 h1)
 have H0 := Lib.hid h1
 clear hb0 h1 tc
 have hd : Ext w1 w1.drew := ext_drew (Below.refl _ _)
 go_cut [7, 8] from 21 (fun v7 v8 wc => v7 = .bool (laid r s).2.isSome ∧ v8 = .int .i64 (laid r s).1 ∧ Ext w1 wc)
 case first =>
  go_region_held3 (fun w' => w'.cell? ⟨w.heap.size, 0, none⟩ = some (.string r.head.pred) ∧ w'.cell? ⟨w.heap.size, 1, none⟩ = some (.slice ah nh ch) ∧ w'.cell? ⟨w.heap.size, 2, none⟩ = some (.slice ab nb cb) ∧ w'.cell? ⟨w.heap.size + 1, 0, none⟩ = some (.string s.head.pred) ∧ w'.cell? ⟨w.heap.size + 1, 1, none⟩ = some (.slice ah' nh' ch') ∧ w'.cell? ⟨w.heap.size + 1, 2, none⟩ = some (.slice ab' nb' cb'))
   (first | go_keep | exact ⟨keep g6 rc0, keep g6 rc1, keep g6 rc2, keep g6 sc0, keep g6 sc1, keep g6 sc2⟩ | exact ⟨keep g7 rc0, keep g7 rc1, keep g7 rc2, keep g7 sc0, keep g7 sc1, keep g7 sc2⟩ | exact ⟨keep g8 rc0, keep g8 rc1, keep g8 rc2, keep g8 sc0, keep g8 sc1, keep g8 sc2⟩)
   (first | (go_at_call 6; (with_reducible refine (c_own2 r _ _ _ _ _ _ w1.drew (HR.out.keep (ext_trans HB.out hd))).mono ?_); rintro e w6 ⟨a6, n6, p6, b6, rfl, R6, h6⟩; have g6 := ext_trans hd h6) | (go_at_call 6; (with_reducible refine (c_own2 s _ _ _ _ _ _ w6 (HS.out.keep (ext_trans HB.out g6))).mono ?_); rintro e w7 ⟨a7, n7, p7, b7, rfl, R7, h7⟩; have g7 := ext_trans g6 h7) | (go_at_call 5; (with_reducible refine (K.c_Within r s _ _ _ _ _ _ _ _ _ _ _ _ w7 (R6.keep h7) R7).mono ?_); rintro e w8 ⟨rfl, h8⟩; have g8 := ext_trans g7 h8) | fail)
  all_goals
   go_wp2
   go_meet
   exact ⟨rfl, rfl, g8⟩
 case rest =>
  obtain ⟨rfl, rfl, h4⟩ := hcut
  have rc0 := keep h4 rc0
  have rc1 := keep h4 rc1
  have rc2 := keep h4 rc2
  have sc0 := keep h4 sc0
  have sc1 := keep h4 sc1
  have sc2 := keep h4 sc2
  have H0 := Lib.hid (ext_trans H0.out h4)
  have HB := Lib.hid (ext_trans HB.out h4)
  clear h4 hd
  obtain ⟨i, hi⟩ : ∃ b, (laid r s).2.isSome = b := ⟨_, rfl⟩
  obtain ⟨q, hq⟩ : ∃ b, (laid r s).1 = b := ⟨_, rfl⟩
  rw [hi, hq]
  have HI := Lib.hid hi
  have HQ := Lib.hid hq
  clear hi hq
  obtain ⟨nq, hnq⟩ : ∃ b, (q != 0) = b := ⟨_, rfl⟩
  cases nq with
  | true =>
   have tf1 := (TF.out _ H0.out).2
   obtain ⟨tv, tv1⟩ := (TF.out _ H0.out).1
   obtain rfl : i = false := by rw [← HI.out]; exact laid_err (by rw [HQ.out]; simpa using hnq)
   go_wp2_with (go_at_call 7; (with_reducible refine (K.c_num _ _).mono ?_); rintro e wn ⟨rfl, rfl⟩)
   exact leave_true rfl (by omega) (TF.out _ H0.out).1 (.inl rfl) (ext_trans BW0.out H0.out)
  | false =>
   obtain rfl : q = 0 := by simpa using hnq
   clear hnq
   obtain ⟨hpr, hps⟩ := K.laid_plain HQ.out
   have PR := Lib.hid hpr
   have PS := Lib.hid hps
   have HM := Lib.hid (K.laid_iff HQ.out)
   clear hpr hps
   have SB : Hid (nb ≤ 64 ∧ nb' ≤ 64) := by have h1 := (plain_sizes PR.out).2.1; have h2 := (plain_sizes PS.out).2.1; have h3 := HR.out.body.2.1; have h4 := HS.out.body.2.1; exact ⟨by omega, by omega⟩
   go_upto_region 7 with (first | (go_at_call 7; (with_reducible refine (K.c_num _ _).mono ?_); rintro e wn ⟨rfl, rfl⟩) | (go_at_call 8; (with_reducible refine (c_fromRel xs _ _ _ _ (HL.out.keep HB.out)).mono ?_); rintro e w2 ⟨e2, v9, q2, rfl, hv9⟩) | fail)
   have rc0 := keep e2 rc0
   have rc1 := keep e2 rc1
   have rc2 := keep e2 rc2
   have sc0 := keep e2 sc0
   have sc1 := keep e2 sc1
   have sc2 := keep e2 sc2
   have H0 := Lib.hid (ext_trans H0.out e2)
   have HB := Lib.hid (ext_trans HB.out e2)
   have SZ := Lib.hid e2.size
   clear e2
   go_cut [62] from 21 (fun v62 wc => ∃ b, v62 = .bool b ∧ (b = true → i = true ∧ ∃ bb f, v9 = .pointer (some ⟨bb, 0, none⟩) ∧ q2 = 0 ∧ BaseV wc wn.heap.size bb f) ∧ Ext w2 wc)
   case first =>
    have hd2 : Ext w2 w2.drew := ext_drew (Below.refl _ _)
    have NM := Lib.hid (fun v W => K.c_num v W)
    rcases hv9 with ⟨hq2, rfl⟩ | ⟨rfl, bb, f, rfl, bv⟩
    ·have hq3 : (q2 == 0) = false := by simpa using hq2
     refine wp_region_noPanic ?_
     refine wp_region_held_drew (S := (fun w' => w'.cell? ⟨w.heap.size, 2, none⟩ = some (.slice ab nb cb) ∧ w'.cell? ⟨w.heap.size + 1, 2, none⟩ = some (.slice ab' nb' cb'))) (by kernel_rfl) ?_ (fun hHeld0 => ?_)
     ·exact ⟨keep hd2 rc2, keep hd2 sc2⟩
     refine wpAnyH_take (i := 0) (oi := oa510) (v := ?v0_m1) rfl (by kernel_rfl) (by kernel_rfl) (by kernel_rfl) (fun _ _ _ h => h) (Or.inl ⟨by rfl, ?hy0_m1⟩) (by assumption) ?rest0_m1
     case hy0_m1 => (intro w hSw; obtain ⟨s1, s2⟩ := hSw; go_simp; first | done | with_reducible rfl)
     try simp only [Act.put, List.setIfInBounds_toArray, List.set_cons_zero, List.set_cons_succ]
     refine wpAnyH_ready (rs := [1]) (by kernel_rfl) (by simp) ?_
     refine AllReadyH.cons (o := oa511) rfl (fun K hK => ?_) AllReadyH.nil
     go_simp
     with_reducible refine (NM.out _ _).mono ?_
     rintro e wz ⟨rfl, hwz⟩
     obtain rfl := hwz.symm
     refine hK.out _ _ ?_ (fun hHeld2 => ?_)
     ·exact ⟨keep hd2 rc2, keep hd2 sc2⟩
     clear hK K
     try simp only [Act.put, List.setIfInBounds_toArray, List.set_cons_zero, List.set_cons_succ]
     refine wpAnyH_take (i := 2) (oi := oa512) (v := ?v2_m1) rfl (by kernel_rfl) (by kernel_rfl) (by kernel_rfl) (fun _ _ _ h => h) (Or.inl ⟨by rfl, ?hy2_m1⟩) (by assumption) ?rest2_m1
     case hy2_m1 => (intro w hSw; obtain ⟨s1, s2⟩ := hSw; go_simp; first | done | with_reducible rfl)
     try simp only [Act.put, List.setIfInBounds_toArray, List.set_cons_zero, List.set_cons_succ]
     refine wpAnyH_take (i := 3) (oi := oa513) (v := ?v3_m1) rfl (by kernel_rfl) (by kernel_rfl) (by kernel_rfl) (fun _ _ _ h => h) (Or.inl ⟨by rfl, ?hy3_m1⟩) (by assumption) ?rest3_m1
     case hy3_m1 => (intro w hSw; obtain ⟨s1, s2⟩ := hSw; go_simp; first | done | with_reducible rfl)
     try simp only [Act.put, List.setIfInBounds_toArray, List.set_cons_zero, List.set_cons_succ]
     refine wpAnyH_take (i := 4) (oi := oa514) rfl (by kernel_rfl) (by kernel_rfl) (by kernel_rfl) (fun _ _ _ h => h) (Or.inr ⟨by rfl, rfl⟩) (by assumption) ?_
     try simp only [Act.put, List.setIfInBounds_toArray, List.set_cons_zero, List.set_cons_succ]
     refine wpAnyH_take (i := 5) (oi := oa515) (v := ?v5_m1) rfl (by kernel_rfl) (by kernel_rfl) (by kernel_rfl) (fun _ _ _ h => h) (Or.inl ⟨by rfl, ?hy5_m1⟩) (by assumption) ?rest5_m1
     case hy5_m1 => (intro w hSw; obtain ⟨s1, s2⟩ := hSw; go_simp; first | done | with_reducible rfl)
     try simp only [Act.put, List.setIfInBounds_toArray, List.set_cons_zero, List.set_cons_succ]
     refine wpAnyH_take (i := 6) (oi := oa516) (v := ?v6_m1) rfl (by kernel_rfl) (by kernel_rfl) (by kernel_rfl) (fun _ _ _ h => h) (Or.inl ⟨by rfl, ?hy6_m1⟩) (by assumption) ?rest6_m1
     case hy6_m1 => (intro w hSw; obtain ⟨s1, s2⟩ := hSw; go_simp; first | done | with_reducible rfl)
     try simp only [Act.put, List.setIfInBounds_toArray, List.set_cons_zero, List.set_cons_succ]
     refine wpAnyH_take (i := 7) (oi := oa517) rfl (by kernel_rfl) (by kernel_rfl) (by kernel_rfl) (fun _ _ _ h => h) (Or.inr ⟨by rfl, rfl⟩) (by assumption) ?_
     try simp only [Act.put, List.setIfInBounds_toArray, List.set_cons_zero, List.set_cons_succ]
     refine wpAnyH_take (i := 8) (oi := oa518) rfl (by kernel_rfl) (by kernel_rfl) (by kernel_rfl) (fun _ _ _ h => h) (Or.inr ⟨by rfl, rfl⟩) (by assumption) ?_
     try simp only [Act.put, List.setIfInBounds_toArray, List.set_cons_zero, List.set_cons_succ]
     refine wpAnyH_take (i := 9) (oi := oa519) rfl (by kernel_rfl) (by kernel_rfl) (by kernel_rfl) (fun _ _ _ h => h) (Or.inr ⟨by rfl, rfl⟩) (by assumption) ?_
     try simp only [Act.put, List.setIfInBounds_toArray, List.set_cons_zero, List.set_cons_succ]
     refine wpAnyH_take (i := 10) (oi := oa5110) rfl (by kernel_rfl) (by kernel_rfl) (by kernel_rfl) (fun _ _ _ h => h) (Or.inr ⟨by rfl, rfl⟩) (by assumption) ?_
     try simp only [Act.put, List.setIfInBounds_toArray, List.set_cons_zero, List.set_cons_succ]
     refine wpAnyH_take (i := 11) (oi := oa5111) rfl (by kernel_rfl) (by kernel_rfl) (by kernel_rfl) (fun _ _ _ h => h) (Or.inr ⟨by rfl, rfl⟩) (by assumption) ?_
     try simp only [Act.put, List.setIfInBounds_toArray, List.set_cons_zero, List.set_cons_succ]
     refine wpAnyH_take (i := 12) (oi := oa5112) rfl (by kernel_rfl) (by kernel_rfl) (by kernel_rfl) (fun _ _ _ h => h) (Or.inr ⟨by rfl, rfl⟩) (by assumption) ?_
     try simp only [Act.put, List.setIfInBounds_toArray, List.set_cons_zero, List.set_cons_succ]
     refine wpAnyH_take (i := 13) (oi := oa5113) (v := ?v13_m1) rfl (by kernel_rfl) (by kernel_rfl) (by kernel_rfl) (fun _ _ _ h => h) (Or.inl ⟨by rfl, ?hy13_m1⟩) (by assumption) ?rest13_m1
     case hy13_m1 => (intro w hSw; obtain ⟨s1, s2⟩ := hSw; go_simp; first | done | with_reducible rfl)
     try simp only [Act.put, List.setIfInBounds_toArray, List.set_cons_zero, List.set_cons_succ]
     refine wpAnyH_take (i := 14) (oi := oa5114) (v := ?v14_m1) rfl (by kernel_rfl) (by kernel_rfl) (by kernel_rfl) (fun _ _ _ h => h) (Or.inl ⟨by rfl, ?hy14_m1⟩) (by assumption) ?rest14_m1
     case hy14_m1 => (intro w hSw; obtain ⟨s1, s2⟩ := hSw; go_simp; first | done | with_reducible rfl)
     try simp only [Act.put, List.setIfInBounds_toArray, List.set_cons_zero, List.set_cons_succ]
     refine wpAnyH_take (i := 15) (oi := oa5115) rfl (by kernel_rfl) (by kernel_rfl) (by kernel_rfl) (fun _ _ _ h => h) (Or.inr ⟨by rfl, rfl⟩) (by assumption) ?_
     try simp only [Act.put, List.setIfInBounds_toArray, List.set_cons_zero, List.set_cons_succ]
     refine wpAnyH_take (i := 16) (oi := oa5116) rfl (by kernel_rfl) (by kernel_rfl) (by kernel_rfl) (fun _ _ _ h => h) (Or.inr ⟨by rfl, rfl⟩) (by assumption) ?_
     try simp only [Act.put, List.setIfInBounds_toArray, List.set_cons_zero, List.set_cons_succ]
     refine wpAnyH_take (i := 17) (oi := oa5117) rfl (by kernel_rfl) (by kernel_rfl) (by kernel_rfl) (fun _ _ _ h => h) (Or.inr ⟨by rfl, rfl⟩) (by assumption) ?_
     try simp only [Act.put, List.setIfInBounds_toArray, List.set_cons_zero, List.set_cons_succ]
     refine wpAnyH_take (i := 18) (oi := oa5118) rfl (by kernel_rfl) (by kernel_rfl) (by kernel_rfl) (fun _ _ _ h => h) (Or.inr ⟨by rfl, rfl⟩) (by assumption) ?_
     try simp only [Act.put, List.setIfInBounds_toArray, List.set_cons_zero, List.set_cons_succ]
     refine wpAnyH_take (i := 19) (oi := oa5119) rfl (by kernel_rfl) (by kernel_rfl) (by kernel_rfl) (fun _ _ _ h => h) (Or.inr ⟨by rfl, rfl⟩) (by assumption) ?_
     try simp only [Act.put, List.setIfInBounds_toArray, List.set_cons_zero, List.set_cons_succ]
     refine wpAnyH_take (i := 20) (oi := oa5120) rfl (by kernel_rfl) (by kernel_rfl) (by kernel_rfl) (fun _ _ _ h => h) (Or.inr ⟨by rfl, rfl⟩) (by assumption) ?_
     try simp only [Act.put, List.setIfInBounds_toArray, List.set_cons_zero, List.set_cons_succ]
     refine wpAnyH_take (i := 21) (oi := oa5121) (v := ?v21_m1) rfl (by kernel_rfl) (by kernel_rfl) (by kernel_rfl) (fun _ _ _ h => h) (Or.inl ⟨by rfl, ?hy21_m1⟩) (by assumption) ?rest21_m1
     case hy21_m1 => (intro w hSw; obtain ⟨s1, s2⟩ := hSw; go_simp; first | done | with_reducible rfl)
     try simp only [Act.put, List.setIfInBounds_toArray, List.set_cons_zero, List.set_cons_succ]
     refine wpAnyH_done (by kernel_rfl) (NoPanic.normal ?_) _
     go_wp2
     go_meet
     exact ⟨false, rfl, by simp, hd2⟩
    ·obtain ⟨n, hn⟩ := bv.r.n
     have BV := Lib.hid bv
     clear bv
     cases i with
     | false =>
      refine wp_region_noPanic ?_
      refine wp_region_held_drew (S := (fun w' => w'.cell? ⟨w.heap.size, 2, none⟩ = some (.slice ab nb cb) ∧ w'.cell? ⟨w.heap.size + 1, 2, none⟩ = some (.slice ab' nb' cb') ∧ w'.cell? ⟨bb, 1, none⟩ = some (.int .i64 n))) (by kernel_rfl) ?_ (fun hHeld0 => ?_)
      ·exact ⟨keep hd2 rc2, keep hd2 sc2, keep hd2 hn⟩
      refine wpAnyH_take (i := 0) (oi := oa510) (v := ?v0_m2) rfl (by kernel_rfl) (by kernel_rfl) (by kernel_rfl) (fun _ _ _ h => h) (Or.inl ⟨by rfl, ?hy0_m2⟩) (by assumption) ?rest0_m2
      case hy0_m2 => (intro w hSw; obtain ⟨s1, s2, s3⟩ := hSw; go_simp; first | done | with_reducible rfl)
      try simp only [Act.put, List.setIfInBounds_toArray, List.set_cons_zero, List.set_cons_succ]
      refine wpAnyH_ready (rs := [1]) (by kernel_rfl) (by simp) ?_
      refine AllReadyH.cons (o := oa511) rfl (fun K hK => ?_) AllReadyH.nil
      go_simp
      with_reducible refine (NM.out _ _).mono ?_
      rintro e wz ⟨rfl, hwz⟩
      obtain rfl := hwz.symm
      refine hK.out _ _ ?_ (fun hHeld2 => ?_)
      ·exact ⟨keep hd2 rc2, keep hd2 sc2, keep hd2 hn⟩
      clear hK K
      try simp only [Act.put, List.setIfInBounds_toArray, List.set_cons_zero, List.set_cons_succ]
      refine wpAnyH_take (i := 2) (oi := oa512) (v := ?v2_m2) rfl (by kernel_rfl) (by kernel_rfl) (by kernel_rfl) (fun _ _ _ h => h) (Or.inl ⟨by rfl, ?hy2_m2⟩) (by assumption) ?rest2_m2
      case hy2_m2 => (intro w hSw; obtain ⟨s1, s2, s3⟩ := hSw; go_simp; first | done | with_reducible rfl)
      try simp only [Act.put, List.setIfInBounds_toArray, List.set_cons_zero, List.set_cons_succ]
      refine wpAnyH_take (i := 3) (oi := oa513) (v := ?v3_m2) rfl (by kernel_rfl) (by kernel_rfl) (by kernel_rfl) (fun _ _ _ h => h) (Or.inl ⟨by rfl, ?hy3_m2⟩) (by assumption) ?rest3_m2
      case hy3_m2 => (intro w hSw; obtain ⟨s1, s2, s3⟩ := hSw; go_simp; first | done | with_reducible rfl)
      try simp only [Act.put, List.setIfInBounds_toArray, List.set_cons_zero, List.set_cons_succ]
      refine wpAnyH_take (i := 4) (oi := oa514) (v := ?v4_m2) rfl (by kernel_rfl) (by kernel_rfl) (by kernel_rfl) (fun _ _ _ h => h) (Or.inl ⟨by rfl, ?hy4_m2⟩) (by assumption) ?rest4_m2
      case hy4_m2 => (intro w hSw; obtain ⟨s1, s2, s3⟩ := hSw; go_simp; first | done | with_reducible rfl)
      try simp only [Act.put, List.setIfInBounds_toArray, List.set_cons_zero, List.set_cons_succ]
      refine wpAnyH_take (i := 5) (oi := oa515) (v := ?v5_m2) rfl (by kernel_rfl) (by kernel_rfl) (by kernel_rfl) (fun _ _ _ h => h) (Or.inl ⟨by rfl, ?hy5_m2⟩) (by assumption) ?rest5_m2
      case hy5_m2 => (intro w hSw; obtain ⟨s1, s2, s3⟩ := hSw; go_simp; first | done | with_reducible rfl)
      try simp only [Act.put, List.setIfInBounds_toArray, List.set_cons_zero, List.set_cons_succ]
      refine wpAnyH_take (i := 6) (oi := oa516) (v := ?v6_m2) rfl (by kernel_rfl) (by kernel_rfl) (by kernel_rfl) (fun _ _ _ h => h) (Or.inl ⟨by rfl, ?hy6_m2⟩) (by assumption) ?rest6_m2
      case hy6_m2 => (intro w hSw; obtain ⟨s1, s2, s3⟩ := hSw; go_simp; first | done | with_reducible rfl)
      try simp only [Act.put, List.setIfInBounds_toArray, List.set_cons_zero, List.set_cons_succ]
      refine wpAnyH_take (i := 7) (oi := oa517) rfl (by kernel_rfl) (by kernel_rfl) (by kernel_rfl) (fun _ _ _ h => h) (Or.inr ⟨by rfl, rfl⟩) (by assumption) ?_
      try simp only [Act.put, List.setIfInBounds_toArray, List.set_cons_zero, List.set_cons_succ]
      refine wpAnyH_take (i := 8) (oi := oa518) rfl (by kernel_rfl) (by kernel_rfl) (by kernel_rfl) (fun _ _ _ h => h) (Or.inr ⟨by rfl, rfl⟩) (by assumption) ?_
      try simp only [Act.put, List.setIfInBounds_toArray, List.set_cons_zero, List.set_cons_succ]
      refine wpAnyH_take (i := 9) (oi := oa519) rfl (by kernel_rfl) (by kernel_rfl) (by kernel_rfl) (fun _ _ _ h => h) (Or.inr ⟨by rfl, rfl⟩) (by assumption) ?_
      try simp only [Act.put, List.setIfInBounds_toArray, List.set_cons_zero, List.set_cons_succ]
      refine wpAnyH_take (i := 10) (oi := oa5110) rfl (by kernel_rfl) (by kernel_rfl) (by kernel_rfl) (fun _ _ _ h => h) (Or.inr ⟨by rfl, rfl⟩) (by assumption) ?_
      try simp only [Act.put, List.setIfInBounds_toArray, List.set_cons_zero, List.set_cons_succ]
      refine wpAnyH_take (i := 11) (oi := oa5111) rfl (by kernel_rfl) (by kernel_rfl) (by kernel_rfl) (fun _ _ _ h => h) (Or.inr ⟨by rfl, rfl⟩) (by assumption) ?_
      try simp only [Act.put, List.setIfInBounds_toArray, List.set_cons_zero, List.set_cons_succ]
      refine wpAnyH_take (i := 12) (oi := oa5112) rfl (by kernel_rfl) (by kernel_rfl) (by kernel_rfl) (fun _ _ _ h => h) (Or.inr ⟨by rfl, rfl⟩) (by assumption) ?_
      try simp only [Act.put, List.setIfInBounds_toArray, List.set_cons_zero, List.set_cons_succ]
      refine wpAnyH_take (i := 13) (oi := oa5113) (v := ?v13_m2) rfl (by kernel_rfl) (by kernel_rfl) (by kernel_rfl) (fun _ _ _ h => h) (Or.inl ⟨by rfl, ?hy13_m2⟩) (by assumption) ?rest13_m2
      case hy13_m2 => (intro w hSw; obtain ⟨s1, s2, s3⟩ := hSw; go_simp; first | done | with_reducible rfl)
      try simp only [Act.put, List.setIfInBounds_toArray, List.set_cons_zero, List.set_cons_succ]
      refine wpAnyH_take (i := 14) (oi := oa5114) (v := ?v14_m2) rfl (by kernel_rfl) (by kernel_rfl) (by kernel_rfl) (fun _ _ _ h => h) (Or.inl ⟨by rfl, ?hy14_m2⟩) (by assumption) ?rest14_m2
      case hy14_m2 => (intro w hSw; obtain ⟨s1, s2, s3⟩ := hSw; go_simp; first | done | with_reducible rfl)
      try simp only [Act.put, List.setIfInBounds_toArray, List.set_cons_zero, List.set_cons_succ]
      refine wpAnyH_take (i := 15) (oi := oa5115) rfl (by kernel_rfl) (by kernel_rfl) (by kernel_rfl) (fun _ _ _ h => h) (Or.inr ⟨by rfl, rfl⟩) (by assumption) ?_
      try simp only [Act.put, List.setIfInBounds_toArray, List.set_cons_zero, List.set_cons_succ]
      refine wpAnyH_take (i := 16) (oi := oa5116) rfl (by kernel_rfl) (by kernel_rfl) (by kernel_rfl) (fun _ _ _ h => h) (Or.inr ⟨by rfl, rfl⟩) (by assumption) ?_
      try simp only [Act.put, List.setIfInBounds_toArray, List.set_cons_zero, List.set_cons_succ]
      refine wpAnyH_take (i := 17) (oi := oa5117) rfl (by kernel_rfl) (by kernel_rfl) (by kernel_rfl) (fun _ _ _ h => h) (Or.inr ⟨by rfl, rfl⟩) (by assumption) ?_
      try simp only [Act.put, List.setIfInBounds_toArray, List.set_cons_zero, List.set_cons_succ]
      refine wpAnyH_take (i := 18) (oi := oa5118) rfl (by kernel_rfl) (by kernel_rfl) (by kernel_rfl) (fun _ _ _ h => h) (Or.inr ⟨by rfl, rfl⟩) (by assumption) ?_
      try simp only [Act.put, List.setIfInBounds_toArray, List.set_cons_zero, List.set_cons_succ]
      refine wpAnyH_take (i := 19) (oi := oa5119) rfl (by kernel_rfl) (by kernel_rfl) (by kernel_rfl) (fun _ _ _ h => h) (Or.inr ⟨by rfl, rfl⟩) (by assumption) ?_
      try simp only [Act.put, List.setIfInBounds_toArray, List.set_cons_zero, List.set_cons_succ]
      refine wpAnyH_take (i := 20) (oi := oa5120) rfl (by kernel_rfl) (by kernel_rfl) (by kernel_rfl) (fun _ _ _ h => h) (Or.inr ⟨by rfl, rfl⟩) (by assumption) ?_
      try simp only [Act.put, List.setIfInBounds_toArray, List.set_cons_zero, List.set_cons_succ]
      refine wpAnyH_take (i := 21) (oi := oa5121) (v := ?v21_m2) rfl (by kernel_rfl) (by kernel_rfl) (by kernel_rfl) (fun _ _ _ h => h) (Or.inl ⟨by rfl, ?hy21_m2⟩) (by assumption) ?rest21_m2
      case hy21_m2 => (intro w hSw; obtain ⟨s1, s2, s3⟩ := hSw; go_simp; first | done | with_reducible rfl)
      try simp only [Act.put, List.setIfInBounds_toArray, List.set_cons_zero, List.set_cons_succ]
      refine wpAnyH_done (by kernel_rfl) (NoPanic.normal ?_) _
      go_wp2
      go_meet
      exact ⟨false, rfl, by simp, hd2⟩
     | true =>
      have zb := SB.out.1
      have zb' := SB.out.2
      obtain ⟨x1, hx1⟩ : ∃ b, fewB n nb = b := ⟨_, rfl⟩
      obtain ⟨x2, hx2⟩ : ∃ b, fewB n nb' = b := ⟨_, rfl⟩
      have hf1 : Hid (∀ W, Calls Tryz.prog 9 #[.int .i64 n, .int .i64 (nb : Int)] W fun e w' => e = .returned (.bool x1) ∧ w' = W) := fun W => by rw [← hx1]; exact c_fewE n nb (by omega) W
      have hf2 : Hid (∀ W, Calls Tryz.prog 9 #[.int .i64 n, .int .i64 (nb' : Int)] W fun e w' => e = .returned (.bool x2) ∧ w' = W) := fun W => by rw [← hx2]; exact c_fewE n nb' (by omega) W
      clear hx1 hx2
      cases x1 with
      | false =>
       refine wp_region_noPanic ?_
       refine wp_region_held_drew (S := (fun w' => w'.cell? ⟨w.heap.size, 2, none⟩ = some (.slice ab nb cb) ∧ w'.cell? ⟨w.heap.size + 1, 2, none⟩ = some (.slice ab' nb' cb') ∧ w'.cell? ⟨bb, 1, none⟩ = some (.int .i64 n))) (by kernel_rfl) ?_ (fun hHeld0 => ?_)
       ·exact ⟨keep hd2 rc2, keep hd2 sc2, keep hd2 hn⟩
       refine wpAnyH_take (i := 0) (oi := oa510) (v := ?v0_m3) rfl (by kernel_rfl) (by kernel_rfl) (by kernel_rfl) (fun _ _ _ h => h) (Or.inl ⟨by rfl, ?hy0_m3⟩) (by assumption) ?rest0_m3
       case hy0_m3 => (intro w hSw; obtain ⟨s1, s2, s3⟩ := hSw; go_simp; first | done | with_reducible rfl)
       try simp only [Act.put, List.setIfInBounds_toArray, List.set_cons_zero, List.set_cons_succ]
       refine wpAnyH_ready (rs := [1]) (by kernel_rfl) (by simp) ?_
       refine AllReadyH.cons (o := oa511) rfl (fun K hK => ?_) AllReadyH.nil
       go_simp
       with_reducible refine (NM.out _ _).mono ?_
       rintro e wz ⟨rfl, hwz⟩
       obtain rfl := hwz.symm
       refine hK.out _ _ ?_ (fun hHeld2 => ?_)
       ·exact ⟨keep hd2 rc2, keep hd2 sc2, keep hd2 hn⟩
       clear hK K
       try simp only [Act.put, List.setIfInBounds_toArray, List.set_cons_zero, List.set_cons_succ]
       refine wpAnyH_take (i := 2) (oi := oa512) (v := ?v2_m3) rfl (by kernel_rfl) (by kernel_rfl) (by kernel_rfl) (fun _ _ _ h => h) (Or.inl ⟨by rfl, ?hy2_m3⟩) (by assumption) ?rest2_m3
       case hy2_m3 => (intro w hSw; obtain ⟨s1, s2, s3⟩ := hSw; go_simp; first | done | with_reducible rfl)
       try simp only [Act.put, List.setIfInBounds_toArray, List.set_cons_zero, List.set_cons_succ]
       refine wpAnyH_take (i := 3) (oi := oa513) (v := ?v3_m3) rfl (by kernel_rfl) (by kernel_rfl) (by kernel_rfl) (fun _ _ _ h => h) (Or.inl ⟨by rfl, ?hy3_m3⟩) (by assumption) ?rest3_m3
       case hy3_m3 => (intro w hSw; obtain ⟨s1, s2, s3⟩ := hSw; go_simp; first | done | with_reducible rfl)
       try simp only [Act.put, List.setIfInBounds_toArray, List.set_cons_zero, List.set_cons_succ]
       refine wpAnyH_take (i := 4) (oi := oa514) (v := ?v4_m3) rfl (by kernel_rfl) (by kernel_rfl) (by kernel_rfl) (fun _ _ _ h => h) (Or.inl ⟨by rfl, ?hy4_m3⟩) (by assumption) ?rest4_m3
       case hy4_m3 => (intro w hSw; obtain ⟨s1, s2, s3⟩ := hSw; go_simp; first | done | with_reducible rfl)
       try simp only [Act.put, List.setIfInBounds_toArray, List.set_cons_zero, List.set_cons_succ]
       refine wpAnyH_take (i := 5) (oi := oa515) (v := ?v5_m3) rfl (by kernel_rfl) (by kernel_rfl) (by kernel_rfl) (fun _ _ _ h => h) (Or.inl ⟨by rfl, ?hy5_m3⟩) (by assumption) ?rest5_m3
       case hy5_m3 => (intro w hSw; obtain ⟨s1, s2, s3⟩ := hSw; go_simp; first | done | with_reducible rfl)
       try simp only [Act.put, List.setIfInBounds_toArray, List.set_cons_zero, List.set_cons_succ]
       refine wpAnyH_take (i := 6) (oi := oa516) (v := ?v6_m3) rfl (by kernel_rfl) (by kernel_rfl) (by kernel_rfl) (fun _ _ _ h => h) (Or.inl ⟨by rfl, ?hy6_m3⟩) (by assumption) ?rest6_m3
       case hy6_m3 => (intro w hSw; obtain ⟨s1, s2, s3⟩ := hSw; go_simp; first | done | with_reducible rfl)
       try simp only [Act.put, List.setIfInBounds_toArray, List.set_cons_zero, List.set_cons_succ]
       refine wpAnyH_take (i := 7) (oi := oa517) (v := ?v7_m3) rfl (by kernel_rfl) (by kernel_rfl) (by kernel_rfl) (fun _ _ _ h => h) (Or.inl ⟨by rfl, ?hy7_m3⟩) (by assumption) ?rest7_m3
       case hy7_m3 => (intro w hSw; obtain ⟨s1, s2, s3⟩ := hSw; go_simp; first | done | with_reducible rfl)
       try simp only [Act.put, List.setIfInBounds_toArray, List.set_cons_zero, List.set_cons_succ]
       refine wpAnyH_take (i := 9) (oi := oa519) (v := ?v9_m3) rfl (by kernel_rfl) (by kernel_rfl) (by kernel_rfl) (fun _ _ _ h => h) (Or.inl ⟨by rfl, ?hy9_m3⟩) (by assumption) ?rest9_m3
       case hy9_m3 => (intro w hSw; obtain ⟨s1, s2, s3⟩ := hSw; go_simp; first | done | with_reducible rfl)
       try simp only [Act.put, List.setIfInBounds_toArray, List.set_cons_zero, List.set_cons_succ]
       refine wpAnyH_take (i := 10) (oi := oa5110) (v := ?v10_m3) rfl (by kernel_rfl) (by kernel_rfl) (by kernel_rfl) (fun _ _ _ h => h) (Or.inl ⟨by rfl, ?hy10_m3⟩) (by assumption) ?rest10_m3
       case hy10_m3 => (intro w hSw; obtain ⟨s1, s2, s3⟩ := hSw; go_simp; first | done | with_reducible rfl)
       try simp only [Act.put, List.setIfInBounds_toArray, List.set_cons_zero, List.set_cons_succ]
       refine wpAnyH_take (i := 11) (oi := oa5111) (v := ?v11_m3) rfl (by kernel_rfl) (by kernel_rfl) (by kernel_rfl) (fun _ _ _ h => h) (Or.inl ⟨by rfl, ?hy11_m3⟩) (by assumption) ?rest11_m3
       case hy11_m3 => (intro w hSw; obtain ⟨s1, s2, s3⟩ := hSw; go_simp; first | done | with_reducible rfl)
       try simp only [Act.put, List.setIfInBounds_toArray, List.set_cons_zero, List.set_cons_succ]
       refine wpAnyH_ready (rs := [8]) (by kernel_rfl) (by simp) ?_
       refine AllReadyH.cons (o := oa518) rfl (fun K hK => ?_) AllReadyH.nil
       go_simp
       with_reducible refine (c_lenE bb n _ (keep hd2 hn)).mono ?_
       rintro e wz ⟨rfl, hwz⟩
       obtain rfl := hwz.symm
       refine hK.out _ _ ?_ (fun hHeld9 => ?_)
       ·exact ⟨keep hd2 rc2, keep hd2 sc2, keep hd2 hn⟩
       clear hK K
       try simp only [Act.put, List.setIfInBounds_toArray, List.set_cons_zero, List.set_cons_succ]
       refine wpAnyH_ready (rs := [12]) (by kernel_rfl) (by simp) ?_
       refine AllReadyH.cons (o := oa5112) rfl (fun K hK => ?_) AllReadyH.nil
       go_simp
       with_reducible refine (hf1.out _).mono ?_
       rintro e wz ⟨rfl, hwz⟩
       obtain rfl := hwz.symm
       refine hK.out _ _ ?_ (fun hHeld13 => ?_)
       ·exact ⟨keep hd2 rc2, keep hd2 sc2, keep hd2 hn⟩
       clear hK K
       try simp only [Act.put, List.setIfInBounds_toArray, List.set_cons_zero, List.set_cons_succ]
       refine wpAnyH_take (i := 13) (oi := oa5113) (v := ?v13_m3) rfl (by kernel_rfl) (by kernel_rfl) (by kernel_rfl) (fun _ _ _ h => h) (Or.inl ⟨by rfl, ?hy13_m3⟩) (by assumption) ?rest13_m3
       case hy13_m3 => (intro w hSw; obtain ⟨s1, s2, s3⟩ := hSw; go_simp; first | done | with_reducible rfl)
       try simp only [Act.put, List.setIfInBounds_toArray, List.set_cons_zero, List.set_cons_succ]
       refine wpAnyH_take (i := 14) (oi := oa5114) (v := ?v14_m3) rfl (by kernel_rfl) (by kernel_rfl) (by kernel_rfl) (fun _ _ _ h => h) (Or.inl ⟨by rfl, ?hy14_m3⟩) (by assumption) ?rest14_m3
       case hy14_m3 => (intro w hSw; obtain ⟨s1, s2, s3⟩ := hSw; go_simp; first | done | with_reducible rfl)
       try simp only [Act.put, List.setIfInBounds_toArray, List.set_cons_zero, List.set_cons_succ]
       refine wpAnyH_take (i := 15) (oi := oa5115) rfl (by kernel_rfl) (by kernel_rfl) (by kernel_rfl) (fun _ _ _ h => h) (Or.inr ⟨by rfl, rfl⟩) (by assumption) ?_
       try simp only [Act.put, List.setIfInBounds_toArray, List.set_cons_zero, List.set_cons_succ]
       refine wpAnyH_take (i := 16) (oi := oa5116) rfl (by kernel_rfl) (by kernel_rfl) (by kernel_rfl) (fun _ _ _ h => h) (Or.inr ⟨by rfl, rfl⟩) (by assumption) ?_
       try simp only [Act.put, List.setIfInBounds_toArray, List.set_cons_zero, List.set_cons_succ]
       refine wpAnyH_take (i := 17) (oi := oa5117) rfl (by kernel_rfl) (by kernel_rfl) (by kernel_rfl) (fun _ _ _ h => h) (Or.inr ⟨by rfl, rfl⟩) (by assumption) ?_
       try simp only [Act.put, List.setIfInBounds_toArray, List.set_cons_zero, List.set_cons_succ]
       refine wpAnyH_take (i := 18) (oi := oa5118) rfl (by kernel_rfl) (by kernel_rfl) (by kernel_rfl) (fun _ _ _ h => h) (Or.inr ⟨by rfl, rfl⟩) (by assumption) ?_
       try simp only [Act.put, List.setIfInBounds_toArray, List.set_cons_zero, List.set_cons_succ]
       refine wpAnyH_take (i := 19) (oi := oa5119) rfl (by kernel_rfl) (by kernel_rfl) (by kernel_rfl) (fun _ _ _ h => h) (Or.inr ⟨by rfl, rfl⟩) (by assumption) ?_
       try simp only [Act.put, List.setIfInBounds_toArray, List.set_cons_zero, List.set_cons_succ]
       refine wpAnyH_take (i := 20) (oi := oa5120) rfl (by kernel_rfl) (by kernel_rfl) (by kernel_rfl) (fun _ _ _ h => h) (Or.inr ⟨by rfl, rfl⟩) (by assumption) ?_
       try simp only [Act.put, List.setIfInBounds_toArray, List.set_cons_zero, List.set_cons_succ]
       refine wpAnyH_take (i := 21) (oi := oa5121) (v := ?v21_m3) rfl (by kernel_rfl) (by kernel_rfl) (by kernel_rfl) (fun _ _ _ h => h) (Or.inl ⟨by rfl, ?hy21_m3⟩) (by assumption) ?rest21_m3
       case hy21_m3 => (intro w hSw; obtain ⟨s1, s2, s3⟩ := hSw; go_simp; first | done | with_reducible rfl)
       try simp only [Act.put, List.setIfInBounds_toArray, List.set_cons_zero, List.set_cons_succ]
       refine wpAnyH_done (by kernel_rfl) (NoPanic.normal ?_) _
       go_wp2
       go_meet
       exact ⟨false, rfl, by simp, hd2⟩
      | true =>
       cases x2 with
       | false =>
        refine wp_region_noPanic ?_
        refine wp_region_held_drew (S := (fun w' => w'.cell? ⟨w.heap.size, 2, none⟩ = some (.slice ab nb cb) ∧ w'.cell? ⟨w.heap.size + 1, 2, none⟩ = some (.slice ab' nb' cb') ∧ w'.cell? ⟨bb, 1, none⟩ = some (.int .i64 n))) (by kernel_rfl) ?_ (fun hHeld0 => ?_)
        ·exact ⟨keep hd2 rc2, keep hd2 sc2, keep hd2 hn⟩
        refine wpAnyH_take (i := 0) (oi := oa510) (v := ?v0_m4) rfl (by kernel_rfl) (by kernel_rfl) (by kernel_rfl) (fun _ _ _ h => h) (Or.inl ⟨by rfl, ?hy0_m4⟩) (by assumption) ?rest0_m4
        case hy0_m4 => (intro w hSw; obtain ⟨s1, s2, s3⟩ := hSw; go_simp; first | done | with_reducible rfl)
        try simp only [Act.put, List.setIfInBounds_toArray, List.set_cons_zero, List.set_cons_succ]
        refine wpAnyH_ready (rs := [1]) (by kernel_rfl) (by simp) ?_
        refine AllReadyH.cons (o := oa511) rfl (fun K hK => ?_) AllReadyH.nil
        go_simp
        with_reducible refine (NM.out _ _).mono ?_
        rintro e wz ⟨rfl, hwz⟩
        obtain rfl := hwz.symm
        refine hK.out _ _ ?_ (fun hHeld2 => ?_)
        ·exact ⟨keep hd2 rc2, keep hd2 sc2, keep hd2 hn⟩
        clear hK K
        try simp only [Act.put, List.setIfInBounds_toArray, List.set_cons_zero, List.set_cons_succ]
        refine wpAnyH_take (i := 2) (oi := oa512) (v := ?v2_m4) rfl (by kernel_rfl) (by kernel_rfl) (by kernel_rfl) (fun _ _ _ h => h) (Or.inl ⟨by rfl, ?hy2_m4⟩) (by assumption) ?rest2_m4
        case hy2_m4 => (intro w hSw; obtain ⟨s1, s2, s3⟩ := hSw; go_simp; first | done | with_reducible rfl)
        try simp only [Act.put, List.setIfInBounds_toArray, List.set_cons_zero, List.set_cons_succ]
        refine wpAnyH_take (i := 3) (oi := oa513) (v := ?v3_m4) rfl (by kernel_rfl) (by kernel_rfl) (by kernel_rfl) (fun _ _ _ h => h) (Or.inl ⟨by rfl, ?hy3_m4⟩) (by assumption) ?rest3_m4
        case hy3_m4 => (intro w hSw; obtain ⟨s1, s2, s3⟩ := hSw; go_simp; first | done | with_reducible rfl)
        try simp only [Act.put, List.setIfInBounds_toArray, List.set_cons_zero, List.set_cons_succ]
        refine wpAnyH_take (i := 4) (oi := oa514) (v := ?v4_m4) rfl (by kernel_rfl) (by kernel_rfl) (by kernel_rfl) (fun _ _ _ h => h) (Or.inl ⟨by rfl, ?hy4_m4⟩) (by assumption) ?rest4_m4
        case hy4_m4 => (intro w hSw; obtain ⟨s1, s2, s3⟩ := hSw; go_simp; first | done | with_reducible rfl)
        try simp only [Act.put, List.setIfInBounds_toArray, List.set_cons_zero, List.set_cons_succ]
        refine wpAnyH_take (i := 5) (oi := oa515) (v := ?v5_m4) rfl (by kernel_rfl) (by kernel_rfl) (by kernel_rfl) (fun _ _ _ h => h) (Or.inl ⟨by rfl, ?hy5_m4⟩) (by assumption) ?rest5_m4
        case hy5_m4 => (intro w hSw; obtain ⟨s1, s2, s3⟩ := hSw; go_simp; first | done | with_reducible rfl)
        try simp only [Act.put, List.setIfInBounds_toArray, List.set_cons_zero, List.set_cons_succ]
        refine wpAnyH_take (i := 6) (oi := oa516) (v := ?v6_m4) rfl (by kernel_rfl) (by kernel_rfl) (by kernel_rfl) (fun _ _ _ h => h) (Or.inl ⟨by rfl, ?hy6_m4⟩) (by assumption) ?rest6_m4
        case hy6_m4 => (intro w hSw; obtain ⟨s1, s2, s3⟩ := hSw; go_simp; first | done | with_reducible rfl)
        try simp only [Act.put, List.setIfInBounds_toArray, List.set_cons_zero, List.set_cons_succ]
        refine wpAnyH_take (i := 7) (oi := oa517) (v := ?v7_m4) rfl (by kernel_rfl) (by kernel_rfl) (by kernel_rfl) (fun _ _ _ h => h) (Or.inl ⟨by rfl, ?hy7_m4⟩) (by assumption) ?rest7_m4
        case hy7_m4 => (intro w hSw; obtain ⟨s1, s2, s3⟩ := hSw; go_simp; first | done | with_reducible rfl)
        try simp only [Act.put, List.setIfInBounds_toArray, List.set_cons_zero, List.set_cons_succ]
        refine wpAnyH_take (i := 9) (oi := oa519) (v := ?v9_m4) rfl (by kernel_rfl) (by kernel_rfl) (by kernel_rfl) (fun _ _ _ h => h) (Or.inl ⟨by rfl, ?hy9_m4⟩) (by assumption) ?rest9_m4
        case hy9_m4 => (intro w hSw; obtain ⟨s1, s2, s3⟩ := hSw; go_simp; first | done | with_reducible rfl)
        try simp only [Act.put, List.setIfInBounds_toArray, List.set_cons_zero, List.set_cons_succ]
        refine wpAnyH_take (i := 10) (oi := oa5110) (v := ?v10_m4) rfl (by kernel_rfl) (by kernel_rfl) (by kernel_rfl) (fun _ _ _ h => h) (Or.inl ⟨by rfl, ?hy10_m4⟩) (by assumption) ?rest10_m4
        case hy10_m4 => (intro w hSw; obtain ⟨s1, s2, s3⟩ := hSw; go_simp; first | done | with_reducible rfl)
        try simp only [Act.put, List.setIfInBounds_toArray, List.set_cons_zero, List.set_cons_succ]
        refine wpAnyH_take (i := 11) (oi := oa5111) (v := ?v11_m4) rfl (by kernel_rfl) (by kernel_rfl) (by kernel_rfl) (fun _ _ _ h => h) (Or.inl ⟨by rfl, ?hy11_m4⟩) (by assumption) ?rest11_m4
        case hy11_m4 => (intro w hSw; obtain ⟨s1, s2, s3⟩ := hSw; go_simp; first | done | with_reducible rfl)
        try simp only [Act.put, List.setIfInBounds_toArray, List.set_cons_zero, List.set_cons_succ]
        refine wpAnyH_ready (rs := [8]) (by kernel_rfl) (by simp) ?_
        refine AllReadyH.cons (o := oa518) rfl (fun K hK => ?_) AllReadyH.nil
        go_simp
        with_reducible refine (c_lenE bb n _ (keep hd2 hn)).mono ?_
        rintro e wz ⟨rfl, hwz⟩
        obtain rfl := hwz.symm
        refine hK.out _ _ ?_ (fun hHeld9 => ?_)
        ·exact ⟨keep hd2 rc2, keep hd2 sc2, keep hd2 hn⟩
        clear hK K
        try simp only [Act.put, List.setIfInBounds_toArray, List.set_cons_zero, List.set_cons_succ]
        refine wpAnyH_ready (rs := [12]) (by kernel_rfl) (by simp) ?_
        refine AllReadyH.cons (o := oa5112) rfl (fun K hK => ?_) AllReadyH.nil
        go_simp
        with_reducible refine (hf1.out _).mono ?_
        rintro e wz ⟨rfl, hwz⟩
        obtain rfl := hwz.symm
        refine hK.out _ _ ?_ (fun hHeld13 => ?_)
        ·exact ⟨keep hd2 rc2, keep hd2 sc2, keep hd2 hn⟩
        clear hK K
        try simp only [Act.put, List.setIfInBounds_toArray, List.set_cons_zero, List.set_cons_succ]
        refine wpAnyH_take (i := 13) (oi := oa5113) (v := ?v13_m4) rfl (by kernel_rfl) (by kernel_rfl) (by kernel_rfl) (fun _ _ _ h => h) (Or.inl ⟨by rfl, ?hy13_m4⟩) (by assumption) ?rest13_m4
        case hy13_m4 => (intro w hSw; obtain ⟨s1, s2, s3⟩ := hSw; go_simp; first | done | with_reducible rfl)
        try simp only [Act.put, List.setIfInBounds_toArray, List.set_cons_zero, List.set_cons_succ]
        refine wpAnyH_take (i := 14) (oi := oa5114) (v := ?v14_m4) rfl (by kernel_rfl) (by kernel_rfl) (by kernel_rfl) (fun _ _ _ h => h) (Or.inl ⟨by rfl, ?hy14_m4⟩) (by assumption) ?rest14_m4
        case hy14_m4 => (intro w hSw; obtain ⟨s1, s2, s3⟩ := hSw; go_simp; first | done | with_reducible rfl)
        try simp only [Act.put, List.setIfInBounds_toArray, List.set_cons_zero, List.set_cons_succ]
        refine wpAnyH_take (i := 15) (oi := oa5115) (v := ?v15_m4) rfl (by kernel_rfl) (by kernel_rfl) (by kernel_rfl) (fun _ _ _ h => h) (Or.inl ⟨by rfl, ?hy15_m4⟩) (by assumption) ?rest15_m4
        case hy15_m4 => (intro w hSw; obtain ⟨s1, s2, s3⟩ := hSw; go_simp; first | done | with_reducible rfl)
        try simp only [Act.put, List.setIfInBounds_toArray, List.set_cons_zero, List.set_cons_succ]
        refine wpAnyH_take (i := 17) (oi := oa5117) (v := ?v17_m4) rfl (by kernel_rfl) (by kernel_rfl) (by kernel_rfl) (fun _ _ _ h => h) (Or.inl ⟨by rfl, ?hy17_m4⟩) (by assumption) ?rest17_m4
        case hy17_m4 => (intro w hSw; obtain ⟨s1, s2, s3⟩ := hSw; go_simp; first | done | with_reducible rfl)
        try simp only [Act.put, List.setIfInBounds_toArray, List.set_cons_zero, List.set_cons_succ]
        refine wpAnyH_take (i := 18) (oi := oa5118) (v := ?v18_m4) rfl (by kernel_rfl) (by kernel_rfl) (by kernel_rfl) (fun _ _ _ h => h) (Or.inl ⟨by rfl, ?hy18_m4⟩) (by assumption) ?rest18_m4
        case hy18_m4 => (intro w hSw; obtain ⟨s1, s2, s3⟩ := hSw; go_simp; first | done | with_reducible rfl)
        try simp only [Act.put, List.setIfInBounds_toArray, List.set_cons_zero, List.set_cons_succ]
        refine wpAnyH_take (i := 19) (oi := oa5119) (v := ?v19_m4) rfl (by kernel_rfl) (by kernel_rfl) (by kernel_rfl) (fun _ _ _ h => h) (Or.inl ⟨by rfl, ?hy19_m4⟩) (by assumption) ?rest19_m4
        case hy19_m4 => (intro w hSw; obtain ⟨s1, s2, s3⟩ := hSw; go_simp; first | done | with_reducible rfl)
        try simp only [Act.put, List.setIfInBounds_toArray, List.set_cons_zero, List.set_cons_succ]
        refine wpAnyH_ready (rs := [16]) (by kernel_rfl) (by simp) ?_
        refine AllReadyH.cons (o := oa5116) rfl (fun K hK => ?_) AllReadyH.nil
        go_simp
        with_reducible refine (c_lenE bb n _ (keep hd2 hn)).mono ?_
        rintro e wz ⟨rfl, hwz⟩
        obtain rfl := hwz.symm
        refine hK.out _ _ ?_ (fun hHeld17 => ?_)
        ·exact ⟨keep hd2 rc2, keep hd2 sc2, keep hd2 hn⟩
        clear hK K
        try simp only [Act.put, List.setIfInBounds_toArray, List.set_cons_zero, List.set_cons_succ]
        refine wpAnyH_ready (rs := [20]) (by kernel_rfl) (by simp) ?_
        refine AllReadyH.cons (o := oa5120) rfl (fun K hK => ?_) AllReadyH.nil
        go_simp
        with_reducible refine (hf2.out _).mono ?_
        rintro e wz ⟨rfl, hwz⟩
        obtain rfl := hwz.symm
        refine hK.out _ _ ?_ (fun hHeld21 => ?_)
        ·exact ⟨keep hd2 rc2, keep hd2 sc2, keep hd2 hn⟩
        clear hK K
        try simp only [Act.put, List.setIfInBounds_toArray, List.set_cons_zero, List.set_cons_succ]
        refine wpAnyH_take (i := 21) (oi := oa5121) (v := ?v21_m4) rfl (by kernel_rfl) (by kernel_rfl) (by kernel_rfl) (fun _ _ _ h => h) (Or.inl ⟨by rfl, ?hy21_m4⟩) (by assumption) ?rest21_m4
        case hy21_m4 => (intro w hSw; obtain ⟨s1, s2, s3⟩ := hSw; go_simp; first | done | with_reducible rfl)
        try simp only [Act.put, List.setIfInBounds_toArray, List.set_cons_zero, List.set_cons_succ]
        refine wpAnyH_done (by kernel_rfl) (NoPanic.normal ?_) _
        go_wp2
        go_meet
        exact ⟨false, rfl, by simp, hd2⟩
       | true =>
        refine wp_region_noPanic ?_
        refine wp_region_held_drew (S := (fun w' => w'.cell? ⟨w.heap.size, 2, none⟩ = some (.slice ab nb cb) ∧ w'.cell? ⟨w.heap.size + 1, 2, none⟩ = some (.slice ab' nb' cb') ∧ w'.cell? ⟨bb, 1, none⟩ = some (.int .i64 n))) (by kernel_rfl) ?_ (fun hHeld0 => ?_)
        ·exact ⟨keep hd2 rc2, keep hd2 sc2, keep hd2 hn⟩
        refine wpAnyH_take (i := 0) (oi := oa510) (v := ?v0_m5) rfl (by kernel_rfl) (by kernel_rfl) (by kernel_rfl) (fun _ _ _ h => h) (Or.inl ⟨by rfl, ?hy0_m5⟩) (by assumption) ?rest0_m5
        case hy0_m5 => (intro w hSw; obtain ⟨s1, s2, s3⟩ := hSw; go_simp; first | done | with_reducible rfl)
        try simp only [Act.put, List.setIfInBounds_toArray, List.set_cons_zero, List.set_cons_succ]
        refine wpAnyH_ready (rs := [1]) (by kernel_rfl) (by simp) ?_
        refine AllReadyH.cons (o := oa511) rfl (fun K hK => ?_) AllReadyH.nil
        go_simp
        with_reducible refine (NM.out _ _).mono ?_
        rintro e wz ⟨rfl, hwz⟩
        obtain rfl := hwz.symm
        refine hK.out _ _ ?_ (fun hHeld2 => ?_)
        ·exact ⟨keep hd2 rc2, keep hd2 sc2, keep hd2 hn⟩
        clear hK K
        try simp only [Act.put, List.setIfInBounds_toArray, List.set_cons_zero, List.set_cons_succ]
        refine wpAnyH_take (i := 2) (oi := oa512) (v := ?v2_m5) rfl (by kernel_rfl) (by kernel_rfl) (by kernel_rfl) (fun _ _ _ h => h) (Or.inl ⟨by rfl, ?hy2_m5⟩) (by assumption) ?rest2_m5
        case hy2_m5 => (intro w hSw; obtain ⟨s1, s2, s3⟩ := hSw; go_simp; first | done | with_reducible rfl)
        try simp only [Act.put, List.setIfInBounds_toArray, List.set_cons_zero, List.set_cons_succ]
        refine wpAnyH_take (i := 3) (oi := oa513) (v := ?v3_m5) rfl (by kernel_rfl) (by kernel_rfl) (by kernel_rfl) (fun _ _ _ h => h) (Or.inl ⟨by rfl, ?hy3_m5⟩) (by assumption) ?rest3_m5
        case hy3_m5 => (intro w hSw; obtain ⟨s1, s2, s3⟩ := hSw; go_simp; first | done | with_reducible rfl)
        try simp only [Act.put, List.setIfInBounds_toArray, List.set_cons_zero, List.set_cons_succ]
        refine wpAnyH_take (i := 4) (oi := oa514) (v := ?v4_m5) rfl (by kernel_rfl) (by kernel_rfl) (by kernel_rfl) (fun _ _ _ h => h) (Or.inl ⟨by rfl, ?hy4_m5⟩) (by assumption) ?rest4_m5
        case hy4_m5 => (intro w hSw; obtain ⟨s1, s2, s3⟩ := hSw; go_simp; first | done | with_reducible rfl)
        try simp only [Act.put, List.setIfInBounds_toArray, List.set_cons_zero, List.set_cons_succ]
        refine wpAnyH_take (i := 5) (oi := oa515) (v := ?v5_m5) rfl (by kernel_rfl) (by kernel_rfl) (by kernel_rfl) (fun _ _ _ h => h) (Or.inl ⟨by rfl, ?hy5_m5⟩) (by assumption) ?rest5_m5
        case hy5_m5 => (intro w hSw; obtain ⟨s1, s2, s3⟩ := hSw; go_simp; first | done | with_reducible rfl)
        try simp only [Act.put, List.setIfInBounds_toArray, List.set_cons_zero, List.set_cons_succ]
        refine wpAnyH_take (i := 6) (oi := oa516) (v := ?v6_m5) rfl (by kernel_rfl) (by kernel_rfl) (by kernel_rfl) (fun _ _ _ h => h) (Or.inl ⟨by rfl, ?hy6_m5⟩) (by assumption) ?rest6_m5
        case hy6_m5 => (intro w hSw; obtain ⟨s1, s2, s3⟩ := hSw; go_simp; first | done | with_reducible rfl)
        try simp only [Act.put, List.setIfInBounds_toArray, List.set_cons_zero, List.set_cons_succ]
        refine wpAnyH_take (i := 7) (oi := oa517) (v := ?v7_m5) rfl (by kernel_rfl) (by kernel_rfl) (by kernel_rfl) (fun _ _ _ h => h) (Or.inl ⟨by rfl, ?hy7_m5⟩) (by assumption) ?rest7_m5
        case hy7_m5 => (intro w hSw; obtain ⟨s1, s2, s3⟩ := hSw; go_simp; first | done | with_reducible rfl)
        try simp only [Act.put, List.setIfInBounds_toArray, List.set_cons_zero, List.set_cons_succ]
        refine wpAnyH_take (i := 9) (oi := oa519) (v := ?v9_m5) rfl (by kernel_rfl) (by kernel_rfl) (by kernel_rfl) (fun _ _ _ h => h) (Or.inl ⟨by rfl, ?hy9_m5⟩) (by assumption) ?rest9_m5
        case hy9_m5 => (intro w hSw; obtain ⟨s1, s2, s3⟩ := hSw; go_simp; first | done | with_reducible rfl)
        try simp only [Act.put, List.setIfInBounds_toArray, List.set_cons_zero, List.set_cons_succ]
        refine wpAnyH_take (i := 10) (oi := oa5110) (v := ?v10_m5) rfl (by kernel_rfl) (by kernel_rfl) (by kernel_rfl) (fun _ _ _ h => h) (Or.inl ⟨by rfl, ?hy10_m5⟩) (by assumption) ?rest10_m5
        case hy10_m5 => (intro w hSw; obtain ⟨s1, s2, s3⟩ := hSw; go_simp; first | done | with_reducible rfl)
        try simp only [Act.put, List.setIfInBounds_toArray, List.set_cons_zero, List.set_cons_succ]
        refine wpAnyH_take (i := 11) (oi := oa5111) (v := ?v11_m5) rfl (by kernel_rfl) (by kernel_rfl) (by kernel_rfl) (fun _ _ _ h => h) (Or.inl ⟨by rfl, ?hy11_m5⟩) (by assumption) ?rest11_m5
        case hy11_m5 => (intro w hSw; obtain ⟨s1, s2, s3⟩ := hSw; go_simp; first | done | with_reducible rfl)
        try simp only [Act.put, List.setIfInBounds_toArray, List.set_cons_zero, List.set_cons_succ]
        refine wpAnyH_ready (rs := [8]) (by kernel_rfl) (by simp) ?_
        refine AllReadyH.cons (o := oa518) rfl (fun K hK => ?_) AllReadyH.nil
        go_simp
        with_reducible refine (c_lenE bb n _ (keep hd2 hn)).mono ?_
        rintro e wz ⟨rfl, hwz⟩
        obtain rfl := hwz.symm
        refine hK.out _ _ ?_ (fun hHeld9 => ?_)
        ·exact ⟨keep hd2 rc2, keep hd2 sc2, keep hd2 hn⟩
        clear hK K
        try simp only [Act.put, List.setIfInBounds_toArray, List.set_cons_zero, List.set_cons_succ]
        refine wpAnyH_ready (rs := [12]) (by kernel_rfl) (by simp) ?_
        refine AllReadyH.cons (o := oa5112) rfl (fun K hK => ?_) AllReadyH.nil
        go_simp
        with_reducible refine (hf1.out _).mono ?_
        rintro e wz ⟨rfl, hwz⟩
        obtain rfl := hwz.symm
        refine hK.out _ _ ?_ (fun hHeld13 => ?_)
        ·exact ⟨keep hd2 rc2, keep hd2 sc2, keep hd2 hn⟩
        clear hK K
        try simp only [Act.put, List.setIfInBounds_toArray, List.set_cons_zero, List.set_cons_succ]
        refine wpAnyH_take (i := 13) (oi := oa5113) (v := ?v13_m5) rfl (by kernel_rfl) (by kernel_rfl) (by kernel_rfl) (fun _ _ _ h => h) (Or.inl ⟨by rfl, ?hy13_m5⟩) (by assumption) ?rest13_m5
        case hy13_m5 => (intro w hSw; obtain ⟨s1, s2, s3⟩ := hSw; go_simp; first | done | with_reducible rfl)
        try simp only [Act.put, List.setIfInBounds_toArray, List.set_cons_zero, List.set_cons_succ]
        refine wpAnyH_take (i := 14) (oi := oa5114) (v := ?v14_m5) rfl (by kernel_rfl) (by kernel_rfl) (by kernel_rfl) (fun _ _ _ h => h) (Or.inl ⟨by rfl, ?hy14_m5⟩) (by assumption) ?rest14_m5
        case hy14_m5 => (intro w hSw; obtain ⟨s1, s2, s3⟩ := hSw; go_simp; first | done | with_reducible rfl)
        try simp only [Act.put, List.setIfInBounds_toArray, List.set_cons_zero, List.set_cons_succ]
        refine wpAnyH_take (i := 15) (oi := oa5115) (v := ?v15_m5) rfl (by kernel_rfl) (by kernel_rfl) (by kernel_rfl) (fun _ _ _ h => h) (Or.inl ⟨by rfl, ?hy15_m5⟩) (by assumption) ?rest15_m5
        case hy15_m5 => (intro w hSw; obtain ⟨s1, s2, s3⟩ := hSw; go_simp; first | done | with_reducible rfl)
        try simp only [Act.put, List.setIfInBounds_toArray, List.set_cons_zero, List.set_cons_succ]
        refine wpAnyH_take (i := 17) (oi := oa5117) (v := ?v17_m5) rfl (by kernel_rfl) (by kernel_rfl) (by kernel_rfl) (fun _ _ _ h => h) (Or.inl ⟨by rfl, ?hy17_m5⟩) (by assumption) ?rest17_m5
        case hy17_m5 => (intro w hSw; obtain ⟨s1, s2, s3⟩ := hSw; go_simp; first | done | with_reducible rfl)
        try simp only [Act.put, List.setIfInBounds_toArray, List.set_cons_zero, List.set_cons_succ]
        refine wpAnyH_take (i := 18) (oi := oa5118) (v := ?v18_m5) rfl (by kernel_rfl) (by kernel_rfl) (by kernel_rfl) (fun _ _ _ h => h) (Or.inl ⟨by rfl, ?hy18_m5⟩) (by assumption) ?rest18_m5
        case hy18_m5 => (intro w hSw; obtain ⟨s1, s2, s3⟩ := hSw; go_simp; first | done | with_reducible rfl)
        try simp only [Act.put, List.setIfInBounds_toArray, List.set_cons_zero, List.set_cons_succ]
        refine wpAnyH_take (i := 19) (oi := oa5119) (v := ?v19_m5) rfl (by kernel_rfl) (by kernel_rfl) (by kernel_rfl) (fun _ _ _ h => h) (Or.inl ⟨by rfl, ?hy19_m5⟩) (by assumption) ?rest19_m5
        case hy19_m5 => (intro w hSw; obtain ⟨s1, s2, s3⟩ := hSw; go_simp; first | done | with_reducible rfl)
        try simp only [Act.put, List.setIfInBounds_toArray, List.set_cons_zero, List.set_cons_succ]
        refine wpAnyH_ready (rs := [16]) (by kernel_rfl) (by simp) ?_
        refine AllReadyH.cons (o := oa5116) rfl (fun K hK => ?_) AllReadyH.nil
        go_simp
        with_reducible refine (c_lenE bb n _ (keep hd2 hn)).mono ?_
        rintro e wz ⟨rfl, hwz⟩
        obtain rfl := hwz.symm
        refine hK.out _ _ ?_ (fun hHeld17 => ?_)
        ·exact ⟨keep hd2 rc2, keep hd2 sc2, keep hd2 hn⟩
        clear hK K
        try simp only [Act.put, List.setIfInBounds_toArray, List.set_cons_zero, List.set_cons_succ]
        refine wpAnyH_ready (rs := [20]) (by kernel_rfl) (by simp) ?_
        refine AllReadyH.cons (o := oa5120) rfl (fun K hK => ?_) AllReadyH.nil
        go_simp
        with_reducible refine (hf2.out _).mono ?_
        rintro e wz ⟨rfl, hwz⟩
        obtain rfl := hwz.symm
        refine hK.out _ _ ?_ (fun hHeld21 => ?_)
        ·exact ⟨keep hd2 rc2, keep hd2 sc2, keep hd2 hn⟩
        clear hK K
        try simp only [Act.put, List.setIfInBounds_toArray, List.set_cons_zero, List.set_cons_succ]
        refine wpAnyH_take (i := 21) (oi := oa5121) (v := ?v21_m5) rfl (by kernel_rfl) (by kernel_rfl) (by kernel_rfl) (fun _ _ _ h => h) (Or.inl ⟨by rfl, ?hy21_m5⟩) (by assumption) ?rest21_m5
        case hy21_m5 => (intro w hSw; obtain ⟨s1, s2, s3⟩ := hSw; go_simp; first | done | with_reducible rfl)
        try simp only [Act.put, List.setIfInBounds_toArray, List.set_cons_zero, List.set_cons_succ]
        refine wpAnyH_done (by kernel_rfl) (NoPanic.normal ?_) _
        go_wp2
        go_meet
        exact ⟨true, rfl, fun _ => ⟨by first | rfl | trivial, bb, f, by first | rfl | trivial, by first | rfl | trivial, BV.out.ext hd2⟩, hd2⟩
   case rest =>
    obtain ⟨b, rfl, hb, h7⟩ := hcut
    have rc0 := keep h7 rc0
    have rc1 := keep h7 rc1
    have rc2 := keep h7 rc2
    have sc0 := keep h7 sc0
    have sc1 := keep h7 sc1
    have sc2 := keep h7 sc2
    have H0 := Lib.hid (ext_trans H0.out h7)
    have HB := Lib.hid (ext_trans HB.out h7)
    clear h7 hv9
    go_upto_if 62 with (fail)
    have WC := Lib.hid (show wc = wc from rfl)
    refine wp_cut (fun a' w' => ∃ (ds : List Deferred) (u9 u10 u11 u12 u13 u14 u15 u21 u22 u23 u24 u25 u26 u27 u28 u29 u30 u31 u32 u33 u34 u35 u36 u37 u38 u39 u40 u41 u42 u43 u44 u45 u46 u47 u48 u49 u50 u51 u52 u53 u54 u55 u56 u57 u58 u59 u60 u61 u62 u63 u64 u65 u66 u67 u68 u69 u70 u71 u72 u73 u74 u75 u76 u77 u78 u79 u80 u81 u82 u83 u84 u85 u86 u87 u88 u89 u90 u91 u92 u93 u94 u95 u96 u97 u98 u99 u100 u101 u102 u103 u104 u105 u106 u107 u108 u109 u110 u111 u112 u113 u114 u115 u116 u117 u118 u119 u120 u121 u122 u123 u124 u125 u126 u127 u128 u129 u130 u131 u132 u133 u134 u135 u136 u137 u138 u139 u140 u141 u142 u143 u144 u145 u146 u147 u148 u149 u150 u151 u152 u153 u154 u155 u156 u157 u158 u159 u160 : Value), (DefOk w ds w' ∧ Ext wc w') ∧ a' = { tmps := #[Value.agg #[.string r.head.pred, .slice ah nh ch, .slice ab nb cb], Value.agg #[.string s.head.pred, .slice ah' nh' ch', .slice ab' nb' cb'], .slice al nl cl, .pointer (some ⟨w.heap.size, 0, none⟩), .pointer (some ⟨w.heap.size + 1, 0, none⟩), undef, .pointer (some ⟨w.heap.size + 1 + 1, 0, none⟩), .bool i, .int .i64 0, u9, u10, u11, u12, u13, u14, u15, undef, undef, undef, undef, undef, u21, u22, u23, u24, u25, u26, u27, u28, u29, u30, u31, u32, u33, u34, u35, u36, u37, u38, u39, u40, u41, u42, u43, u44, u45, u46, u47, u48, u49, u50, u51, u52, u53, u54, u55, u56, u57, u58, u59, u60, u61, u62, u63, u64, u65, u66, u67, u68, u69, u70, u71, u72, u73, u74, u75, u76, u77, u78, u79, u80, u81, u82, u83, u84, u85, u86, u87, u88, u89, u90, u91, u92, u93, u94, u95, u96, u97, u98, u99, u100, u101, u102, u103, u104, u105, u106, u107, u108, u109, u110, u111, u112, u113, u114, u115, u116, u117, u118, u119, u120, u121, u122, u123, u124, u125, u126, u127, u128, u129, u130, u131, u132, u133, u134, u135, u136, u137, u138, u139, u140, u141, u142, u143, u144, u145, u146, u147, u148, u149, u150, u151, u152, u153, u154, u155, u156, u157, u158, u159, u160], defers := ds }) ?rest ?first
    case first =>
     intro _ _ _ _
     cases b with
     | false =>
      go_wp2
      refine Met.intro ?_
      go_step
      (repeat apply Exists.intro)
      exact ⟨⟨.inl rfl, Below.refl _ _⟩, rfl⟩
     | true =>
      obtain ⟨rfl, bb, f, rfl, rfl, bv⟩ := hb rfl
      have BV := Lib.hid bv
      clear hb bv
      have E0 : Hid (Ext wc wc) := Below.refl _ _
      go_upto_region 9 with (first | (go_at_call 6; (with_reducible refine (c_own2 r _ _ _ _ _ _ wc (HR.out.keep HB.out)).mono ?_); rintro e w6 ⟨a6, n6, p6, b6, rfl, R6, h6⟩) | (go_at_call 11; (with_reducible refine (c_factsP r _ _ _ _ _ _ _ bb f w6 R6 (BV.out.ext h6) PR.out).mono ?_); rintro e w7 ⟨h7, hfa⟩; obtain ⟨l1, q1, rfl, hl1⟩ := facts_one hfa; clear hfa; have g7 := ext_trans h6 h7; have rc0 := keep g7 rc0; have rc1 := keep g7 rc1; have rc2 := keep g7 rc2; have sc0 := keep g7 sc0; have sc1 := keep g7 sc1; have sc2 := keep g7 sc2) | fail)
      have HB7 := Lib.hid (ext_trans HB.out g7)
      have BV7 := Lib.hid (BV.out.ext g7)
      have G7 := Lib.hid g7
      clear h6 h7 R6 g7
      go_upto_region 10 with (first | (go_at_call 6; (with_reducible refine (c_own2 s _ _ _ _ _ _ w7 (HS.out.keep HB7.out)).mono ?_); rintro e w8 ⟨a8, n8, p8, b8, rfl, R8, h8⟩) | (go_at_call 11; (with_reducible refine (c_factsP s _ _ _ _ _ _ _ bb f w8 R8 (BV7.out.ext h8) PS.out).mono ?_); rintro e w9 ⟨h9, hfa⟩; obtain ⟨l2, q2, rfl, hl2⟩ := facts_one hfa; clear hfa; have g9 := ext_trans h8 h9) | fail)
      refine wp_gen (fun W9 hW9 => ?_)
      have E9 : Ext w7 W9 := by rw [hW9]; exact ext_alloc g9 _
      have K9 : ∀ p, l2 = p → W9.cell? ⟨w9.heap.size, 0, none⟩ = some (.pointer p) := by rw [hW9]; rintro p rfl; go_simp
      have EA9 : Ext w9 W9 := by rw [hW9]; exact ext_alloc (Below.refl _ _) _
      have Z9 : w9.heap.size < W9.heap.size := by rw [hW9]; simp
      clear hW9
      have EX : Hid (Ext wc W9) := ext_trans G7.out E9
      rcases hl1 with rfl | ⟨rfl, pr, rows, rfl, v1, k1, d1⟩
      ·go_wp2_with (first | (go_at_call 7; (with_reducible refine (K.c_num _ _).mono ?_); rintro e wn ⟨rfl, rfl⟩) | fail)
       refine Met.intro ?_
       go_step
       (repeat apply Exists.intro)
       exact ⟨⟨.inl rfl, EX.out⟩, rfl⟩
      ·rcases hl2 with rfl | ⟨rfl, pm, rows2, rfl, v2, k2, d2⟩
       ·go_wp2_with (first | (go_at_call 7; (with_reducible refine (K.c_num _ _).mono ?_); rintro e wn ⟨rfl, rfl⟩) | fail)
        refine Met.intro ?_
        go_step
        (repeat apply Exists.intro)
        exact ⟨⟨.inl rfl, EX.out⟩, rfl⟩
       ·have km := K9 _ rfl
        have V2 := Lib.hid (v2.ext EA9)
        have V1 := Lib.hid (v1.ext E9)
        have KK := Lib.hid (And.intro k1 k2)
        have DD : Hid (∀ y ∈ rows, y ∈ rows2) := fun y hy => (d2 y).2 (law_derives PR.out PS.out (HM.out.1 HI.out) ((d1 y).1 hy))
        have EAC : Hid (Calls Tryz.prog 12 #[.pointer (some ⟨pr, 0, none⟩)] W9 (EachRowP rows W9)) := c_eachRow (some (pr, nh, rows)) rows W9 ⟨V1.out, rfl⟩ (by have := k1.few; omega) (fun y hy => by have h1 := (k1.row y hy).1; have h2 := k1.wide; omega)
        clear v1 v2 k1 k2 d1 d2 K9
        go_upto_region 11 with (first | (go_at_call 7; (with_reducible refine (K.c_num _ _).mono ?_); rintro e wn ⟨rfl, rfl⟩) | fail)
        go_wp2_with (first | (go_at_call 12; (with_reducible refine EAC.out.mono ?_); rintro e w10 ⟨bs, a4, c4, vs, rfl, hb1, hb2, hb3, hb4, hb5, hb6⟩) | fail)
        have VS := Lib.hid hb5
        have h1v : ∀ v ∈ vs, ∃ a m c, v = Value.slice a m c := fun v hv => by
         obtain ⟨k, hk⟩ := List.mem_iff_getElem?.1 hv
         have hkl := (List.getElem?_eq_some_iff.1 hk).1
         obtain ⟨y, hy⟩ : ∃ y, rows[k]? = some y := ⟨_, List.getElem?_eq_getElem (by have := hb5.1; omega)⟩
         obtain ⟨a, c, e, _⟩ := own_form (hb5.2 k y v hy hk)
         exact ⟨a, _, c, e⟩
        have km2 := keep hb6 km
        have V3 := Lib.hid (V2.out.ext hb6)
        have EX2 : Hid (Ext wc w10) := ext_trans EX.out hb6
        refine (wpIn_wide (n := 5)).1 ?_
        refine' wpIn_rangeFunc_ownG (F := Fence.wide) rfl (by omega) (gf := 59) (lb := #[.pointer (some ⟨bs, 0, none⟩)]) rfl trivial (enters_of Tryz.func59 (by kernel_rfl) rfl)
         (values_stops Fence.wide 4 trivial rfl (by omega) bs _ rows.length c4 a4 vs w10 hb4 h1v (by have := KK.out.1.few; omega) (fun b => w10.heap.size ≤ b) (fun b e q => by have := (hb4.lt b e).2; omega) hb2 hb3) (fun h k => h.trans k) (fun W l o o' hl _ _ _ => ButS.putObj W o' hl) (Below.refl _ _) (fun _ => rfl)
         (fun pre W => Ext w10 W) (fun _ _ _ => False) ?own ?ownx (Below.refl _ _) _ ?assign ?body ?done ?stop
        case assign =>
         intro l x W K hK
         gi_wp2
         exact hK
        case own =>
         rintro pre W W' row h hg hr
         exact ext_ownB h hg (fun g e => (hr g e).1)
        case ownx =>
         rintro c pre W W' row h hg hr
         exact h.elim
        case stop =>
         rintro D c pre W hD hpre h hK
         exact h.elim
        case done =>
         rintro D ys W hD rfl h hK
         have HK := Lib.hid hK
         have HX := Lib.hid h
         have HD := Lib.hid hD
         clear hK h hD
         go_wp2
         refine Met.intro ?_
         go_step
         (repeat apply Exists.intro)
         exact ⟨⟨.inr ⟨D, by have h1 := HB.out.size; have h2 := EX2.out.size; have h3 := HD.out; omega, rfl, HK.out⟩, ext_trans EX2.out HX.out⟩, rfl⟩
        case body =>
         rintro l pre x W h hlt
         obtain ⟨y, hr1⟩ : ∃ y, rows[x.1]? = some y := ⟨_, List.getElem?_eq_getElem x.2⟩
         obtain ⟨v, hv1⟩ : ∃ v, vs[x.1]? = some v := ⟨_, List.getElem?_eq_getElem (by rw [VS.out.1]; exact x.2)⟩
         have ho1 := up_ext (VS.out.2 _ y v hr1 hv1) h
         obtain ⟨a7, c7, rfl, _⟩ := own_form ho1
         have hv2 : vs[x.1]?.getD undef = .slice a7 y.length c7 := by rw [hv1]; rfl
         rw [hv2]
         have HSC := Lib.hid (c_has pm nh' rows2 y a7 y.length c7 W (V3.out.ext h) KK.out.2 (own_strs ho1 (own_len ho1).1))
         have hin : decide (y ∈ rows2) = true := decide_eq_true (DD.out y (List.mem_of_getElem? hr1))
         rw [hin] at HSC
         have km3 := keep h km2
         have HX := Lib.hid h
         clear hin hv2 hr1 hv1 ho1 h
         gi_wp2_with (first
          | (refine ⟨trivial, ?_⟩; gi_at_call 13; refine (CallsIn.inRound l (callsIn_wide.2 HSC.out)).mono ?_; rintro e w7 ⟨rfl, hw7⟩; obtain rfl := hw7.symm))
         exact ⟨(KeepsOthers.ext (Below.refl _ _)).from _, ButS.refl _ _, HX.out⟩
    case rest =>
     intro a' wd hinv
     obtain ⟨ds, hinv⟩ := hinv
     obtain ⟨u9, hinv⟩ := hinv
     obtain ⟨u10, hinv⟩ := hinv
     obtain ⟨u11, hinv⟩ := hinv
     obtain ⟨u12, hinv⟩ := hinv
     obtain ⟨u13, hinv⟩ := hinv
     obtain ⟨u14, hinv⟩ := hinv
     obtain ⟨u15, hinv⟩ := hinv
     obtain ⟨u21, hinv⟩ := hinv
     obtain ⟨u22, hinv⟩ := hinv
     obtain ⟨u23, hinv⟩ := hinv
     obtain ⟨u24, hinv⟩ := hinv
     obtain ⟨u25, hinv⟩ := hinv
     obtain ⟨u26, hinv⟩ := hinv
     obtain ⟨u27, hinv⟩ := hinv
     obtain ⟨u28, hinv⟩ := hinv
     obtain ⟨u29, hinv⟩ := hinv
     obtain ⟨u30, hinv⟩ := hinv
     obtain ⟨u31, hinv⟩ := hinv
     obtain ⟨u32, hinv⟩ := hinv
     obtain ⟨u33, hinv⟩ := hinv
     obtain ⟨u34, hinv⟩ := hinv
     obtain ⟨u35, hinv⟩ := hinv
     obtain ⟨u36, hinv⟩ := hinv
     obtain ⟨u37, hinv⟩ := hinv
     obtain ⟨u38, hinv⟩ := hinv
     obtain ⟨u39, hinv⟩ := hinv
     obtain ⟨u40, hinv⟩ := hinv
     obtain ⟨u41, hinv⟩ := hinv
     obtain ⟨u42, hinv⟩ := hinv
     obtain ⟨u43, hinv⟩ := hinv
     obtain ⟨u44, hinv⟩ := hinv
     obtain ⟨u45, hinv⟩ := hinv
     obtain ⟨u46, hinv⟩ := hinv
     obtain ⟨u47, hinv⟩ := hinv
     obtain ⟨u48, hinv⟩ := hinv
     obtain ⟨u49, hinv⟩ := hinv
     obtain ⟨u50, hinv⟩ := hinv
     obtain ⟨u51, hinv⟩ := hinv
     obtain ⟨u52, hinv⟩ := hinv
     obtain ⟨u53, hinv⟩ := hinv
     obtain ⟨u54, hinv⟩ := hinv
     obtain ⟨u55, hinv⟩ := hinv
     obtain ⟨u56, hinv⟩ := hinv
     obtain ⟨u57, hinv⟩ := hinv
     obtain ⟨u58, hinv⟩ := hinv
     obtain ⟨u59, hinv⟩ := hinv
     obtain ⟨u60, hinv⟩ := hinv
     obtain ⟨u61, hinv⟩ := hinv
     obtain ⟨u62, hinv⟩ := hinv
     obtain ⟨u63, hinv⟩ := hinv
     obtain ⟨u64, hinv⟩ := hinv
     obtain ⟨u65, hinv⟩ := hinv
     obtain ⟨u66, hinv⟩ := hinv
     obtain ⟨u67, hinv⟩ := hinv
     obtain ⟨u68, hinv⟩ := hinv
     obtain ⟨u69, hinv⟩ := hinv
     obtain ⟨u70, hinv⟩ := hinv
     obtain ⟨u71, hinv⟩ := hinv
     obtain ⟨u72, hinv⟩ := hinv
     obtain ⟨u73, hinv⟩ := hinv
     obtain ⟨u74, hinv⟩ := hinv
     obtain ⟨u75, hinv⟩ := hinv
     obtain ⟨u76, hinv⟩ := hinv
     obtain ⟨u77, hinv⟩ := hinv
     obtain ⟨u78, hinv⟩ := hinv
     obtain ⟨u79, hinv⟩ := hinv
     obtain ⟨u80, hinv⟩ := hinv
     obtain ⟨u81, hinv⟩ := hinv
     obtain ⟨u82, hinv⟩ := hinv
     obtain ⟨u83, hinv⟩ := hinv
     obtain ⟨u84, hinv⟩ := hinv
     obtain ⟨u85, hinv⟩ := hinv
     obtain ⟨u86, hinv⟩ := hinv
     obtain ⟨u87, hinv⟩ := hinv
     obtain ⟨u88, hinv⟩ := hinv
     obtain ⟨u89, hinv⟩ := hinv
     obtain ⟨u90, hinv⟩ := hinv
     obtain ⟨u91, hinv⟩ := hinv
     obtain ⟨u92, hinv⟩ := hinv
     obtain ⟨u93, hinv⟩ := hinv
     obtain ⟨u94, hinv⟩ := hinv
     obtain ⟨u95, hinv⟩ := hinv
     obtain ⟨u96, hinv⟩ := hinv
     obtain ⟨u97, hinv⟩ := hinv
     obtain ⟨u98, hinv⟩ := hinv
     obtain ⟨u99, hinv⟩ := hinv
     obtain ⟨u100, hinv⟩ := hinv
     obtain ⟨u101, hinv⟩ := hinv
     obtain ⟨u102, hinv⟩ := hinv
     obtain ⟨u103, hinv⟩ := hinv
     obtain ⟨u104, hinv⟩ := hinv
     obtain ⟨u105, hinv⟩ := hinv
     obtain ⟨u106, hinv⟩ := hinv
     obtain ⟨u107, hinv⟩ := hinv
     obtain ⟨u108, hinv⟩ := hinv
     obtain ⟨u109, hinv⟩ := hinv
     obtain ⟨u110, hinv⟩ := hinv
     obtain ⟨u111, hinv⟩ := hinv
     obtain ⟨u112, hinv⟩ := hinv
     obtain ⟨u113, hinv⟩ := hinv
     obtain ⟨u114, hinv⟩ := hinv
     obtain ⟨u115, hinv⟩ := hinv
     obtain ⟨u116, hinv⟩ := hinv
     obtain ⟨u117, hinv⟩ := hinv
     obtain ⟨u118, hinv⟩ := hinv
     obtain ⟨u119, hinv⟩ := hinv
     obtain ⟨u120, hinv⟩ := hinv
     obtain ⟨u121, hinv⟩ := hinv
     obtain ⟨u122, hinv⟩ := hinv
     obtain ⟨u123, hinv⟩ := hinv
     obtain ⟨u124, hinv⟩ := hinv
     obtain ⟨u125, hinv⟩ := hinv
     obtain ⟨u126, hinv⟩ := hinv
     obtain ⟨u127, hinv⟩ := hinv
     obtain ⟨u128, hinv⟩ := hinv
     obtain ⟨u129, hinv⟩ := hinv
     obtain ⟨u130, hinv⟩ := hinv
     obtain ⟨u131, hinv⟩ := hinv
     obtain ⟨u132, hinv⟩ := hinv
     obtain ⟨u133, hinv⟩ := hinv
     obtain ⟨u134, hinv⟩ := hinv
     obtain ⟨u135, hinv⟩ := hinv
     obtain ⟨u136, hinv⟩ := hinv
     obtain ⟨u137, hinv⟩ := hinv
     obtain ⟨u138, hinv⟩ := hinv
     obtain ⟨u139, hinv⟩ := hinv
     obtain ⟨u140, hinv⟩ := hinv
     obtain ⟨u141, hinv⟩ := hinv
     obtain ⟨u142, hinv⟩ := hinv
     obtain ⟨u143, hinv⟩ := hinv
     obtain ⟨u144, hinv⟩ := hinv
     obtain ⟨u145, hinv⟩ := hinv
     obtain ⟨u146, hinv⟩ := hinv
     obtain ⟨u147, hinv⟩ := hinv
     obtain ⟨u148, hinv⟩ := hinv
     obtain ⟨u149, hinv⟩ := hinv
     obtain ⟨u150, hinv⟩ := hinv
     obtain ⟨u151, hinv⟩ := hinv
     obtain ⟨u152, hinv⟩ := hinv
     obtain ⟨u153, hinv⟩ := hinv
     obtain ⟨u154, hinv⟩ := hinv
     obtain ⟨u155, hinv⟩ := hinv
     obtain ⟨u156, hinv⟩ := hinv
     obtain ⟨u157, hinv⟩ := hinv
     obtain ⟨u158, hinv⟩ := hinv
     obtain ⟨u159, hinv⟩ := hinv
     obtain ⟨u160, hinv⟩ := hinv
     obtain ⟨⟨hds, hE⟩, ha⟩ := hinv
     subst ha
     have rc0 := keep hE rc0
     have rc1 := keep hE rc1
     have rc2 := keep hE rc2
     have sc0 := keep hE sc0
     have sc1 := keep hE sc1
     have sc2 := keep hE sc2
     have H0 := Lib.hid (ext_trans H0.out hE)
     have HB := Lib.hid (ext_trans HB.out hE)
     have HDS := Lib.hid hds
     clear hE hds hb WC
     have CFZ := Lib.hid (c_frozen r ah nh ch ab nb cb wd (HR.out.keep HB.out) (by have h1 := (plain_sizes PR.out).1; have h2 := HR.out.terms.2.1; omega) SB.out.1 (plain_sizes PR.out).2.2)
     go_upto_region 16 with (first | (go_at_call 14; (with_reducible refine CFZ.out.mono ?_); rintro e w11 hfz; obtain ⟨e11, pc, a11, n11, c11, ok, rfl, hok⟩ := froz_one hfz; clear hfz; have rc0 := keep e11 rc0; have rc1 := keep e11 rc1; have rc2 := keep e11 rc2; have sc0 := keep e11 sc0; have sc1 := keep e11 sc1; have sc2 := keep e11 sc2) | fail)
     have H0 := Lib.hid (ext_trans H0.out e11)
     have HB := Lib.hid (ext_trans HB.out e11)
     have HDS := Lib.hid (HDS.out.ext e11)
     have HOK := Lib.hid hok
     clear e11 hok CFZ
     obtain ⟨bp, hbp⟩ : ∃ b, (r.head.pred == s.head.pred) = b := ⟨_, rfl⟩
     obtain ⟨bl, hbl⟩ : ∃ b, ((nh : Int) == (nh' : Int)) = b := ⟨_, rfl⟩
     have hbp2 : (r.head.pred.toList == s.head.pred.toList) = bp := by rw [beq_bytes, ← hbp]; rw [Bool.eq_iff_iff]; simp
     have hbl2 : ((nh : Int) != (nh' : Int)) = !bl := by rw [← hbl]; rfl
     have HBP := Lib.hid hbp
     have HBL : Hid (bl = true ↔ nh = nh') := by show _ ↔ _; rw [← hbl]; simp; omega
     have HDF : Hid (bp = false ∨ bl = false → i = false) := fun q => by
      cases i with
      | false => rfl
      | true =>
       obtain ⟨h1, h2⟩ := hom_head (HM.out.1 HI.out)
       rcases q with q | q
       ·subst q; have := HBP.out; rw [h1] at this; simp at this
       ·subst q
        have := HBL.out.2 (by rw [← HR.out.terms.2.1, ← HS.out.terms.2.1, h2])
        cases this
     have tf2 := (TF.out _ H0.out).2
     obtain ⟨tv2, tv3⟩ := (TF.out _ H0.out).1
     cases bp with
     | false =>
      obtain rfl : i = false := HDF.out (.inl rfl)
      go_wp2
      exact leave_true rfl (by omega) (TF.out _ H0.out).1 HDS.out (ext_trans BW0.out H0.out)
     | true =>
      cases bl with
      | false =>
       obtain rfl : i = false := HDF.out (.inr rfl)
       go_wp2
       exact leave_true rfl (by omega) (TF.out _ H0.out).1 HDS.out (ext_trans BW0.out H0.out)
      | true =>
       have hpe : r.head.pred = s.head.pred := by have := HBP.out; simpa using this
       have HPE := Lib.hid hpe
       clear hpe hbp hbl
       go_upto_region 18 with (fail)
       go_cut [138] from 93 (fun v138 wc => ∃ z, v138 = .bool z ∧ (z = false → ok = true ∧ cleanR r = true ∧ cleanR s = true) ∧ Ext w11 wc)
       case first =>
        cases ok with
        | false =>
         go_quiet (fail)
         go_wp2
         go_meet
         exact ⟨true, rfl, by simp, ext_drewN (Below.refl _ _) _⟩
        | true =>
         obtain ⟨hn11, lo, bb, f, rfl, bv, body, sa⟩ := HOK.out rfl
         have hn12 := hn11.symm
         subst hn12
         clear hn11
         obtain ⟨nn, hn⟩ := bv.r.n
         have hnb' : nb' ≤ 64 := SB.out.2
         obtain ⟨x1, hx1⟩ : ∃ b, fewB nn nb' = b := ⟨_, rfl⟩
         have hf1 : Hid (∀ W, Calls Tryz.prog 9 #[.int .i64 nn, .int .i64 (nb' : Int)] W fun e w' => e = .returned (.bool x1) ∧ w' = W) := fun W => by rw [← hx1]; exact c_fewE nn nb' (by omega) W
         have hd : Ext w11 w11.drew := ext_drew (Below.refl _ _)
         obtain ⟨q1, hq1⟩ : ∃ b, cleanR r = b := ⟨_, rfl⟩
         obtain ⟨q2, hq2⟩ : ∃ b, cleanR s = b := ⟨_, rfl⟩
         have CR : Hid (∀ W, Ext w11 W → Calls Tryz.prog 15 #[.agg #[.string r.head.pred, .slice ah nh ch, .slice ab nb cb]] W fun e w' => e = .returned (.bool q1) ∧ Ext W w') := fun W e => by rw [← hq1]; exact c_cleanR r _ _ _ _ _ _ W (HR.out.keep (ext_trans HB.out e))
         have CS : Hid (∀ W, Ext w11 W → Calls Tryz.prog 15 #[.agg #[.string s.head.pred, .slice ah' nh' ch', .slice ab' nb' cb']] W fun e w' => e = .returned (.bool q2) ∧ Ext W w') := fun W e => by rw [← hq2]; exact c_cleanR s _ _ _ _ _ _ W (HS.out.keep (ext_trans HB.out e))
         have HQ1 := Lib.hid hq1
         have HQ2 := Lib.hid hq2
         clear hx1 hq1 hq2 bv body sa
         cases q1 with
         | false =>
          refine wp_region_noPanic ?_
          refine wp_region_held_drew (S := (fun w' => w'.cell? ⟨w.heap.size, 0, none⟩ = some (.string r.head.pred) ∧ w'.cell? ⟨w.heap.size, 1, none⟩ = some (.slice ah nh ch) ∧ w'.cell? ⟨w.heap.size, 2, none⟩ = some (.slice ab nb cb) ∧ w'.cell? ⟨w.heap.size + 1, 0, none⟩ = some (.string s.head.pred) ∧ w'.cell? ⟨w.heap.size + 1, 1, none⟩ = some (.slice ah' nh' ch') ∧ w'.cell? ⟨w.heap.size + 1, 2, none⟩ = some (.slice ab' nb' cb') ∧ w'.cell? ⟨bb, 1, none⟩ = some (.int .i64 nn))) (by kernel_rfl) ?_ (fun hHeld0 => ?_)
          ·exact ⟨keep hd rc0, keep hd rc1, keep hd rc2, keep hd sc0, keep hd sc1, keep hd sc2, keep hd hn⟩
          refine wpAnyH_take (i := 0) (oi := oa5122) (v := ?v0_1) rfl (by kernel_rfl) (by kernel_rfl) (by kernel_rfl) (fun _ _ _ h => h) (Or.inl ⟨by rfl, ?hy0_1⟩) (by assumption) ?rest0_1
          case hy0_1 => (intro w hSw; obtain ⟨s1, s2, s3, s4, s5, s6, s7⟩ := hSw; go_simp; first | done | with_reducible rfl)
          try simp only [Act.put, List.setIfInBounds_toArray, List.set_cons_zero, List.set_cons_succ]
          refine wpAnyH_take (i := 1) (oi := oa5123) (v := ?v1_1) rfl (by kernel_rfl) (by kernel_rfl) (by kernel_rfl) (fun _ _ _ h => h) (Or.inl ⟨by rfl, ?hy1_1⟩) (by assumption) ?rest1_1
          case hy1_1 => (intro w hSw; obtain ⟨s1, s2, s3, s4, s5, s6, s7⟩ := hSw; go_simp; first | done | with_reducible rfl)
          try simp only [Act.put, List.setIfInBounds_toArray, List.set_cons_zero, List.set_cons_succ]
          refine wpAnyH_take (i := 2) (oi := oa5124) (v := ?v2_1) rfl (by kernel_rfl) (by kernel_rfl) (by kernel_rfl) (fun _ _ _ h => h) (Or.inl ⟨by rfl, ?hy2_1⟩) (by assumption) ?rest2_1
          case hy2_1 => (intro w hSw; obtain ⟨s1, s2, s3, s4, s5, s6, s7⟩ := hSw; go_simp; first | done | with_reducible rfl)
          try simp only [Act.put, List.setIfInBounds_toArray, List.set_cons_zero, List.set_cons_succ]
          refine wpAnyH_take (i := 3) (oi := oa5125) (v := ?v3_1) rfl (by kernel_rfl) (by kernel_rfl) (by kernel_rfl) (fun _ _ _ h => h) (Or.inl ⟨by rfl, ?hy3_1⟩) (by assumption) ?rest3_1
          case hy3_1 => (intro w hSw; obtain ⟨s1, s2, s3, s4, s5, s6, s7⟩ := hSw; go_simp; first | done | with_reducible rfl)
          try simp only [Act.put, List.setIfInBounds_toArray, List.set_cons_zero, List.set_cons_succ]
          refine wpAnyH_ready (rs := [4]) (by kernel_rfl) (by simp) ?_
          refine AllReadyH.cons (o := oa5126) rfl (fun K hK => ?_) AllReadyH.nil
          go_simp
          with_reducible refine (CR.out w11.drew hd).mono ?_
          rintro e w12 ⟨rfl, h12⟩
          have g12 := ext_trans hd h12
          refine hK.out _ _ ?_ (fun hHeld5 => ?_)
          ·exact ⟨keep g12 rc0, keep g12 rc1, keep g12 rc2, keep g12 sc0, keep g12 sc1, keep g12 sc2, keep g12 hn⟩
          clear hK K
          try simp only [Act.put, List.setIfInBounds_toArray, List.set_cons_zero, List.set_cons_succ]
          refine wpAnyH_take (i := 5) (oi := oa5127) (v := ?v5_1) rfl (by kernel_rfl) (by kernel_rfl) (by kernel_rfl) (fun _ _ _ h => h) (Or.inl ⟨by rfl, ?hy5_1⟩) (by assumption) ?rest5_1
          case hy5_1 => (intro w hSw; obtain ⟨s1, s2, s3, s4, s5, s6, s7⟩ := hSw; go_simp; first | done | with_reducible rfl)
          try simp only [Act.put, List.setIfInBounds_toArray, List.set_cons_zero, List.set_cons_succ]
          refine wpAnyH_take (i := 6) (oi := oa5128) (v := ?v6_1) rfl (by kernel_rfl) (by kernel_rfl) (by kernel_rfl) (fun _ _ _ h => h) (Or.inl ⟨by rfl, ?hy6_1⟩) (by assumption) ?rest6_1
          case hy6_1 => (intro w hSw; obtain ⟨s1, s2, s3, s4, s5, s6, s7⟩ := hSw; go_simp; first | done | with_reducible rfl)
          try simp only [Act.put, List.setIfInBounds_toArray, List.set_cons_zero, List.set_cons_succ]
          refine wpAnyH_take (i := 7) (oi := oa5129) (v := ?v7_1) rfl (by kernel_rfl) (by kernel_rfl) (by kernel_rfl) (fun _ _ _ h => h) (Or.inl ⟨by rfl, ?hy7_1⟩) (by assumption) ?rest7_1
          case hy7_1 => (intro w hSw; obtain ⟨s1, s2, s3, s4, s5, s6, s7⟩ := hSw; go_simp; first | done | with_reducible rfl)
          try simp only [Act.put, List.setIfInBounds_toArray, List.set_cons_zero, List.set_cons_succ]
          refine wpAnyH_take (i := 8) (oi := oa5130) rfl (by kernel_rfl) (by kernel_rfl) (by kernel_rfl) (fun _ _ _ h => h) (Or.inr ⟨by rfl, rfl⟩) (by assumption) ?_
          try simp only [Act.put, List.setIfInBounds_toArray, List.set_cons_zero, List.set_cons_succ]
          refine wpAnyH_take (i := 9) (oi := oa5131) rfl (by kernel_rfl) (by kernel_rfl) (by kernel_rfl) (fun _ _ _ h => h) (Or.inr ⟨by rfl, rfl⟩) (by assumption) ?_
          try simp only [Act.put, List.setIfInBounds_toArray, List.set_cons_zero, List.set_cons_succ]
          refine wpAnyH_take (i := 10) (oi := oa5132) rfl (by kernel_rfl) (by kernel_rfl) (by kernel_rfl) (fun _ _ _ h => h) (Or.inr ⟨by rfl, rfl⟩) (by assumption) ?_
          try simp only [Act.put, List.setIfInBounds_toArray, List.set_cons_zero, List.set_cons_succ]
          refine wpAnyH_take (i := 11) (oi := oa5133) (v := ?v11_1) rfl (by kernel_rfl) (by kernel_rfl) (by kernel_rfl) (fun _ _ _ h => h) (Or.inl ⟨by rfl, ?hy11_1⟩) (by assumption) ?rest11_1
          case hy11_1 => (intro w hSw; obtain ⟨s1, s2, s3, s4, s5, s6, s7⟩ := hSw; go_simp; first | done | with_reducible rfl)
          try simp only [Act.put, List.setIfInBounds_toArray, List.set_cons_zero, List.set_cons_succ]
          refine wpAnyH_take (i := 12) (oi := oa5134) (v := ?v12_1) rfl (by kernel_rfl) (by kernel_rfl) (by kernel_rfl) (fun _ _ _ h => h) (Or.inl ⟨by rfl, ?hy12_1⟩) (by assumption) ?rest12_1
          case hy12_1 => (intro w hSw; obtain ⟨s1, s2, s3, s4, s5, s6, s7⟩ := hSw; go_simp; first | done | with_reducible rfl)
          try simp only [Act.put, List.setIfInBounds_toArray, List.set_cons_zero, List.set_cons_succ]
          refine wpAnyH_take (i := 13) (oi := oa5135) rfl (by kernel_rfl) (by kernel_rfl) (by kernel_rfl) (fun _ _ _ h => h) (Or.inr ⟨by rfl, rfl⟩) (by assumption) ?_
          try simp only [Act.put, List.setIfInBounds_toArray, List.set_cons_zero, List.set_cons_succ]
          refine wpAnyH_take (i := 14) (oi := oa5136) rfl (by kernel_rfl) (by kernel_rfl) (by kernel_rfl) (fun _ _ _ h => h) (Or.inr ⟨by rfl, rfl⟩) (by assumption) ?_
          try simp only [Act.put, List.setIfInBounds_toArray, List.set_cons_zero, List.set_cons_succ]
          refine wpAnyH_take (i := 15) (oi := oa5137) rfl (by kernel_rfl) (by kernel_rfl) (by kernel_rfl) (fun _ _ _ h => h) (Or.inr ⟨by rfl, rfl⟩) (by assumption) ?_
          try simp only [Act.put, List.setIfInBounds_toArray, List.set_cons_zero, List.set_cons_succ]
          refine wpAnyH_take (i := 16) (oi := oa5138) rfl (by kernel_rfl) (by kernel_rfl) (by kernel_rfl) (fun _ _ _ h => h) (Or.inr ⟨by rfl, rfl⟩) (by assumption) ?_
          try simp only [Act.put, List.setIfInBounds_toArray, List.set_cons_zero, List.set_cons_succ]
          refine wpAnyH_take (i := 17) (oi := oa5139) rfl (by kernel_rfl) (by kernel_rfl) (by kernel_rfl) (fun _ _ _ h => h) (Or.inr ⟨by rfl, rfl⟩) (by assumption) ?_
          try simp only [Act.put, List.setIfInBounds_toArray, List.set_cons_zero, List.set_cons_succ]
          refine wpAnyH_take (i := 18) (oi := oa5140) rfl (by kernel_rfl) (by kernel_rfl) (by kernel_rfl) (fun _ _ _ h => h) (Or.inr ⟨by rfl, rfl⟩) (by assumption) ?_
          try simp only [Act.put, List.setIfInBounds_toArray, List.set_cons_zero, List.set_cons_succ]
          refine wpAnyH_take (i := 19) (oi := oa5141) rfl (by kernel_rfl) (by kernel_rfl) (by kernel_rfl) (fun _ _ _ h => h) (Or.inr ⟨by rfl, rfl⟩) (by assumption) ?_
          try simp only [Act.put, List.setIfInBounds_toArray, List.set_cons_zero, List.set_cons_succ]
          refine wpAnyH_take (i := 20) (oi := oa5142) (v := ?v20_1) rfl (by kernel_rfl) (by kernel_rfl) (by kernel_rfl) (fun _ _ _ h => h) (Or.inl ⟨by rfl, ?hy20_1⟩) (by assumption) ?rest20_1
          case hy20_1 => (intro w hSw; obtain ⟨s1, s2, s3, s4, s5, s6, s7⟩ := hSw; go_simp; first | done | with_reducible rfl)
          try simp only [Act.put, List.setIfInBounds_toArray, List.set_cons_zero, List.set_cons_succ]
          refine wpAnyH_done (by kernel_rfl) (NoPanic.normal ?_) _
          go_wp2
          go_meet
          exact ⟨true, rfl, by simp, g12⟩
         | true =>
          cases q2 with
          | false =>
           refine wp_region_noPanic ?_
           refine wp_region_held_drew (S := (fun w' => w'.cell? ⟨w.heap.size, 0, none⟩ = some (.string r.head.pred) ∧ w'.cell? ⟨w.heap.size, 1, none⟩ = some (.slice ah nh ch) ∧ w'.cell? ⟨w.heap.size, 2, none⟩ = some (.slice ab nb cb) ∧ w'.cell? ⟨w.heap.size + 1, 0, none⟩ = some (.string s.head.pred) ∧ w'.cell? ⟨w.heap.size + 1, 1, none⟩ = some (.slice ah' nh' ch') ∧ w'.cell? ⟨w.heap.size + 1, 2, none⟩ = some (.slice ab' nb' cb') ∧ w'.cell? ⟨bb, 1, none⟩ = some (.int .i64 nn))) (by kernel_rfl) ?_ (fun hHeld0 => ?_)
           ·exact ⟨keep hd rc0, keep hd rc1, keep hd rc2, keep hd sc0, keep hd sc1, keep hd sc2, keep hd hn⟩
           refine wpAnyH_take (i := 0) (oi := oa5122) (v := ?v0_2) rfl (by kernel_rfl) (by kernel_rfl) (by kernel_rfl) (fun _ _ _ h => h) (Or.inl ⟨by rfl, ?hy0_2⟩) (by assumption) ?rest0_2
           case hy0_2 => (intro w hSw; obtain ⟨s1, s2, s3, s4, s5, s6, s7⟩ := hSw; go_simp; first | done | with_reducible rfl)
           try simp only [Act.put, List.setIfInBounds_toArray, List.set_cons_zero, List.set_cons_succ]
           refine wpAnyH_take (i := 1) (oi := oa5123) (v := ?v1_2) rfl (by kernel_rfl) (by kernel_rfl) (by kernel_rfl) (fun _ _ _ h => h) (Or.inl ⟨by rfl, ?hy1_2⟩) (by assumption) ?rest1_2
           case hy1_2 => (intro w hSw; obtain ⟨s1, s2, s3, s4, s5, s6, s7⟩ := hSw; go_simp; first | done | with_reducible rfl)
           try simp only [Act.put, List.setIfInBounds_toArray, List.set_cons_zero, List.set_cons_succ]
           refine wpAnyH_take (i := 2) (oi := oa5124) (v := ?v2_2) rfl (by kernel_rfl) (by kernel_rfl) (by kernel_rfl) (fun _ _ _ h => h) (Or.inl ⟨by rfl, ?hy2_2⟩) (by assumption) ?rest2_2
           case hy2_2 => (intro w hSw; obtain ⟨s1, s2, s3, s4, s5, s6, s7⟩ := hSw; go_simp; first | done | with_reducible rfl)
           try simp only [Act.put, List.setIfInBounds_toArray, List.set_cons_zero, List.set_cons_succ]
           refine wpAnyH_take (i := 3) (oi := oa5125) (v := ?v3_2) rfl (by kernel_rfl) (by kernel_rfl) (by kernel_rfl) (fun _ _ _ h => h) (Or.inl ⟨by rfl, ?hy3_2⟩) (by assumption) ?rest3_2
           case hy3_2 => (intro w hSw; obtain ⟨s1, s2, s3, s4, s5, s6, s7⟩ := hSw; go_simp; first | done | with_reducible rfl)
           try simp only [Act.put, List.setIfInBounds_toArray, List.set_cons_zero, List.set_cons_succ]
           refine wpAnyH_ready (rs := [4]) (by kernel_rfl) (by simp) ?_
           refine AllReadyH.cons (o := oa5126) rfl (fun K hK => ?_) AllReadyH.nil
           go_simp
           with_reducible refine (CR.out w11.drew hd).mono ?_
           rintro e w12 ⟨rfl, h12⟩
           have g12 := ext_trans hd h12
           refine hK.out _ _ ?_ (fun hHeld5 => ?_)
           ·exact ⟨keep g12 rc0, keep g12 rc1, keep g12 rc2, keep g12 sc0, keep g12 sc1, keep g12 sc2, keep g12 hn⟩
           clear hK K
           try simp only [Act.put, List.setIfInBounds_toArray, List.set_cons_zero, List.set_cons_succ]
           refine wpAnyH_take (i := 5) (oi := oa5127) (v := ?v5_2) rfl (by kernel_rfl) (by kernel_rfl) (by kernel_rfl) (fun _ _ _ h => h) (Or.inl ⟨by rfl, ?hy5_2⟩) (by assumption) ?rest5_2
           case hy5_2 => (intro w hSw; obtain ⟨s1, s2, s3, s4, s5, s6, s7⟩ := hSw; go_simp; first | done | with_reducible rfl)
           try simp only [Act.put, List.setIfInBounds_toArray, List.set_cons_zero, List.set_cons_succ]
           refine wpAnyH_take (i := 6) (oi := oa5128) (v := ?v6_2) rfl (by kernel_rfl) (by kernel_rfl) (by kernel_rfl) (fun _ _ _ h => h) (Or.inl ⟨by rfl, ?hy6_2⟩) (by assumption) ?rest6_2
           case hy6_2 => (intro w hSw; obtain ⟨s1, s2, s3, s4, s5, s6, s7⟩ := hSw; go_simp; first | done | with_reducible rfl)
           try simp only [Act.put, List.setIfInBounds_toArray, List.set_cons_zero, List.set_cons_succ]
           refine wpAnyH_take (i := 7) (oi := oa5129) (v := ?v7_2) rfl (by kernel_rfl) (by kernel_rfl) (by kernel_rfl) (fun _ _ _ h => h) (Or.inl ⟨by rfl, ?hy7_2⟩) (by assumption) ?rest7_2
           case hy7_2 => (intro w hSw; obtain ⟨s1, s2, s3, s4, s5, s6, s7⟩ := hSw; go_simp; first | done | with_reducible rfl)
           try simp only [Act.put, List.setIfInBounds_toArray, List.set_cons_zero, List.set_cons_succ]
           refine wpAnyH_take (i := 8) (oi := oa5130) (v := ?v8_2) rfl (by kernel_rfl) (by kernel_rfl) (by kernel_rfl) (fun _ _ _ h => h) (Or.inl ⟨by rfl, ?hy8_2⟩) (by assumption) ?rest8_2
           case hy8_2 => (intro w hSw; obtain ⟨s1, s2, s3, s4, s5, s6, s7⟩ := hSw; go_simp; first | done | with_reducible rfl)
           try simp only [Act.put, List.setIfInBounds_toArray, List.set_cons_zero, List.set_cons_succ]
           refine wpAnyH_ready (rs := [9]) (by kernel_rfl) (by simp) ?_
           refine AllReadyH.cons (o := oa5131) rfl (fun K hK => ?_) AllReadyH.nil
           go_simp
           with_reducible refine (CS.out w12 g12).mono ?_
           rintro e w13 ⟨rfl, h13⟩
           have g13 := ext_trans g12 h13
           refine hK.out _ _ ?_ (fun hHeld10 => ?_)
           ·exact ⟨keep g13 rc0, keep g13 rc1, keep g13 rc2, keep g13 sc0, keep g13 sc1, keep g13 sc2, keep g13 hn⟩
           clear hK K
           try simp only [Act.put, List.setIfInBounds_toArray, List.set_cons_zero, List.set_cons_succ]
           refine wpAnyH_take (i := 10) (oi := oa5132) (v := ?v10_2) rfl (by kernel_rfl) (by kernel_rfl) (by kernel_rfl) (fun _ _ _ h => h) (Or.inl ⟨by rfl, ?hy10_2⟩) (by assumption) ?rest10_2
           case hy10_2 => (intro w hSw; obtain ⟨s1, s2, s3, s4, s5, s6, s7⟩ := hSw; go_simp; first | done | with_reducible rfl)
           try simp only [Act.put, List.setIfInBounds_toArray, List.set_cons_zero, List.set_cons_succ]
           refine wpAnyH_take (i := 11) (oi := oa5133) (v := ?v11_2) rfl (by kernel_rfl) (by kernel_rfl) (by kernel_rfl) (fun _ _ _ h => h) (Or.inl ⟨by rfl, ?hy11_2⟩) (by assumption) ?rest11_2
           case hy11_2 => (intro w hSw; obtain ⟨s1, s2, s3, s4, s5, s6, s7⟩ := hSw; go_simp; first | done | with_reducible rfl)
           try simp only [Act.put, List.setIfInBounds_toArray, List.set_cons_zero, List.set_cons_succ]
           refine wpAnyH_take (i := 12) (oi := oa5134) (v := ?v12_2) rfl (by kernel_rfl) (by kernel_rfl) (by kernel_rfl) (fun _ _ _ h => h) (Or.inl ⟨by rfl, ?hy12_2⟩) (by assumption) ?rest12_2
           case hy12_2 => (intro w hSw; obtain ⟨s1, s2, s3, s4, s5, s6, s7⟩ := hSw; go_simp; first | done | with_reducible rfl)
           try simp only [Act.put, List.setIfInBounds_toArray, List.set_cons_zero, List.set_cons_succ]
           refine wpAnyH_take (i := 13) (oi := oa5135) rfl (by kernel_rfl) (by kernel_rfl) (by kernel_rfl) (fun _ _ _ h => h) (Or.inr ⟨by rfl, rfl⟩) (by assumption) ?_
           try simp only [Act.put, List.setIfInBounds_toArray, List.set_cons_zero, List.set_cons_succ]
           refine wpAnyH_take (i := 14) (oi := oa5136) rfl (by kernel_rfl) (by kernel_rfl) (by kernel_rfl) (fun _ _ _ h => h) (Or.inr ⟨by rfl, rfl⟩) (by assumption) ?_
           try simp only [Act.put, List.setIfInBounds_toArray, List.set_cons_zero, List.set_cons_succ]
           refine wpAnyH_take (i := 15) (oi := oa5137) rfl (by kernel_rfl) (by kernel_rfl) (by kernel_rfl) (fun _ _ _ h => h) (Or.inr ⟨by rfl, rfl⟩) (by assumption) ?_
           try simp only [Act.put, List.setIfInBounds_toArray, List.set_cons_zero, List.set_cons_succ]
           refine wpAnyH_take (i := 16) (oi := oa5138) rfl (by kernel_rfl) (by kernel_rfl) (by kernel_rfl) (fun _ _ _ h => h) (Or.inr ⟨by rfl, rfl⟩) (by assumption) ?_
           try simp only [Act.put, List.setIfInBounds_toArray, List.set_cons_zero, List.set_cons_succ]
           refine wpAnyH_take (i := 17) (oi := oa5139) rfl (by kernel_rfl) (by kernel_rfl) (by kernel_rfl) (fun _ _ _ h => h) (Or.inr ⟨by rfl, rfl⟩) (by assumption) ?_
           try simp only [Act.put, List.setIfInBounds_toArray, List.set_cons_zero, List.set_cons_succ]
           refine wpAnyH_take (i := 18) (oi := oa5140) rfl (by kernel_rfl) (by kernel_rfl) (by kernel_rfl) (fun _ _ _ h => h) (Or.inr ⟨by rfl, rfl⟩) (by assumption) ?_
           try simp only [Act.put, List.setIfInBounds_toArray, List.set_cons_zero, List.set_cons_succ]
           refine wpAnyH_take (i := 19) (oi := oa5141) rfl (by kernel_rfl) (by kernel_rfl) (by kernel_rfl) (fun _ _ _ h => h) (Or.inr ⟨by rfl, rfl⟩) (by assumption) ?_
           try simp only [Act.put, List.setIfInBounds_toArray, List.set_cons_zero, List.set_cons_succ]
           refine wpAnyH_take (i := 20) (oi := oa5142) (v := ?v20_2) rfl (by kernel_rfl) (by kernel_rfl) (by kernel_rfl) (fun _ _ _ h => h) (Or.inl ⟨by rfl, ?hy20_2⟩) (by assumption) ?rest20_2
           case hy20_2 => (intro w hSw; obtain ⟨s1, s2, s3, s4, s5, s6, s7⟩ := hSw; go_simp; first | done | with_reducible rfl)
           try simp only [Act.put, List.setIfInBounds_toArray, List.set_cons_zero, List.set_cons_succ]
           refine wpAnyH_done (by kernel_rfl) (NoPanic.normal ?_) _
           go_wp2
           go_meet
           exact ⟨true, rfl, by simp, g13⟩
          | true =>
           cases x1 with
           | false =>
            go_region_held3 (fun w' => w'.cell? ⟨w.heap.size, 0, none⟩ = some (.string r.head.pred) ∧ w'.cell? ⟨w.heap.size, 1, none⟩ = some (.slice ah nh ch) ∧ w'.cell? ⟨w.heap.size, 2, none⟩ = some (.slice ab nb cb) ∧ w'.cell? ⟨w.heap.size + 1, 0, none⟩ = some (.string s.head.pred) ∧ w'.cell? ⟨w.heap.size + 1, 1, none⟩ = some (.slice ah' nh' ch') ∧ w'.cell? ⟨w.heap.size + 1, 2, none⟩ = some (.slice ab' nb' cb') ∧ w'.cell? ⟨bb, 1, none⟩ = some (.int .i64 nn))
             (first | go_keep | exact ⟨keep g12 rc0, keep g12 rc1, keep g12 rc2, keep g12 sc0, keep g12 sc1, keep g12 sc2, keep g12 hn⟩ | exact ⟨keep g13 rc0, keep g13 rc1, keep g13 rc2, keep g13 sc0, keep g13 sc1, keep g13 sc2, keep g13 hn⟩ | exact ⟨keep (ext_drew g12) rc0, keep (ext_drew g12) rc1, keep (ext_drew g12) rc2, keep (ext_drew g12) sc0, keep (ext_drew g12) sc1, keep (ext_drew g12) sc2, keep (ext_drew g12) hn⟩ | exact ⟨keep (ext_drew g13) rc0, keep (ext_drew g13) rc1, keep (ext_drew g13) rc2, keep (ext_drew g13) sc0, keep (ext_drew g13) sc1, keep (ext_drew g13) sc2, keep (ext_drew g13) hn⟩)
             (first | (go_at_call 15; (with_reducible refine (CR.out w11.drew hd).mono ?_); rintro e w12 ⟨rfl, h12⟩; have g12 := ext_trans hd h12) | (go_at_call 15; (with_reducible refine (CS.out w12 g12).mono ?_); rintro e w13 ⟨rfl, h13⟩; have g13 := ext_trans g12 h13) | (go_at_call 10; (with_reducible refine (c_lenE bb nn w13 (keep g13 hn)).mono ?_); rintro e wl ⟨rfl, hwl⟩; obtain rfl := hwl.symm) | (go_at_call 9; (with_reducible refine (hf1.out _).mono ?_); rintro e wl ⟨rfl, hwl⟩; obtain rfl := hwl.symm) | fail)
            all_goals
             go_wp2
             go_meet
             exact ⟨true, rfl, by simp, (by first | exact g13 | exact ext_drew g13)⟩
           | true =>
            go_region_held3 (fun w' => w'.cell? ⟨w.heap.size, 0, none⟩ = some (.string r.head.pred) ∧ w'.cell? ⟨w.heap.size, 1, none⟩ = some (.slice ah nh ch) ∧ w'.cell? ⟨w.heap.size, 2, none⟩ = some (.slice ab nb cb) ∧ w'.cell? ⟨w.heap.size + 1, 0, none⟩ = some (.string s.head.pred) ∧ w'.cell? ⟨w.heap.size + 1, 1, none⟩ = some (.slice ah' nh' ch') ∧ w'.cell? ⟨w.heap.size + 1, 2, none⟩ = some (.slice ab' nb' cb') ∧ w'.cell? ⟨bb, 1, none⟩ = some (.int .i64 nn))
             (first | go_keep | exact ⟨keep g12 rc0, keep g12 rc1, keep g12 rc2, keep g12 sc0, keep g12 sc1, keep g12 sc2, keep g12 hn⟩ | exact ⟨keep g13 rc0, keep g13 rc1, keep g13 rc2, keep g13 sc0, keep g13 sc1, keep g13 sc2, keep g13 hn⟩ | exact ⟨keep (ext_drew g12) rc0, keep (ext_drew g12) rc1, keep (ext_drew g12) rc2, keep (ext_drew g12) sc0, keep (ext_drew g12) sc1, keep (ext_drew g12) sc2, keep (ext_drew g12) hn⟩ | exact ⟨keep (ext_drew g13) rc0, keep (ext_drew g13) rc1, keep (ext_drew g13) rc2, keep (ext_drew g13) sc0, keep (ext_drew g13) sc1, keep (ext_drew g13) sc2, keep (ext_drew g13) hn⟩)
             (first | (go_at_call 15; (with_reducible refine (CR.out w11.drew hd).mono ?_); rintro e w12 ⟨rfl, h12⟩; have g12 := ext_trans hd h12) | (go_at_call 15; (with_reducible refine (CS.out w12 g12).mono ?_); rintro e w13 ⟨rfl, h13⟩; have g13 := ext_trans g12 h13) | (go_at_call 10; (with_reducible refine (c_lenE bb nn w13 (keep g13 hn)).mono ?_); rintro e wl ⟨rfl, hwl⟩; obtain rfl := hwl.symm) | (go_at_call 9; (with_reducible refine (hf1.out _).mono ?_); rintro e wl ⟨rfl, hwl⟩; obtain rfl := hwl.symm) | fail)
            all_goals
             go_wp2
             go_meet
             exact ⟨false, rfl, by simp [HQ1.out, HQ2.out], (by first | exact g13 | exact ext_drew g13)⟩
       case rest =>
        obtain ⟨z, rfl, hz, h18⟩ := hcut
        have rc0 := keep h18 rc0
        have rc1 := keep h18 rc1
        have rc2 := keep h18 rc2
        have sc0 := keep h18 sc0
        have sc1 := keep h18 sc1
        have sc2 := keep h18 sc2
        have H0 := Lib.hid (ext_trans H0.out h18)
        have HB := Lib.hid (ext_trans HB.out h18)
        have HDS := Lib.hid (HDS.out.ext h18)
        have tf3 := (TF.out _ H0.out).2
        obtain ⟨tv4, tv5⟩ := (TF.out _ H0.out).1
        cases z with
        | true =>
         go_wp2
         exact leave_true rfl (by omega) (TF.out _ H0.out).1 HDS.out (ext_trans BW0.out H0.out)
        | false =>
         obtain ⟨rfl, cr, cs⟩ := hz rfl
         obtain ⟨rfl, lo, bb, f, rfl, bv, body, sa⟩ := HOK.out rfl
         have LF := Lib.hid (law_frozen PR.out PS.out cr cs body HPE.out (by have h1 := HR.out.terms.2.1; have h2 := HS.out.terms.2.1; have h3 := HBL.out.1 rfl; omega))
         have BV := Lib.hid (bv.ext h18)
         have SA := Lib.hid (sa.keep h18)
         clear h18 hz cr cs bv body sa HBL HOK HBP HDF HPE
         go_upto_region 21 with (first | (go_at_call 6; (with_reducible refine (c_own2 s _ _ _ _ _ _ wc (HS.out.keep HB.out)).mono ?_); rintro e w14 ⟨a14, n14, p14, b14, rfl, R14, h14⟩) | (go_at_call 11; (with_reducible refine (c_factsP s _ _ _ _ _ _ _ bb f w14 R14 (BV.out.ext h14) PS.out).mono ?_); rintro e w15 ⟨h15, hfa⟩; obtain ⟨l3, q3, rfl, hl3⟩ := facts_one hfa; clear hfa; have g15 := ext_trans h14 h15) | fail)
         have H0 := Lib.hid (ext_trans H0.out g15)
         have HDS := Lib.hid (HDS.out.ext g15)
         have SA := Lib.hid (SA.out.keep g15)
         clear h14 h15 R14 g15
         have tf5 := (TF.out _ H0.out).2
         obtain ⟨tv6, tv7⟩ := (TF.out _ H0.out).1
         rcases hl3 with rfl | ⟨rfl, pm, rows3, rfl, v3, k3, d3⟩
         ·go_wp2_with (first | (go_at_call 7; (with_reducible refine (K.c_num _ _).mono ?_); rintro e wn ⟨rfl, rfl⟩) | fail)
          exact leave_true rfl (by omega) (TF.out _ H0.out).1 HDS.out (ext_trans BW0.out H0.out)
         ·have HAS := Lib.hid (c_has pm nh' rows3 _ a11 _ c11 w15 v3 k3 SA.out)
          have hin : decide ((frRow (frBody r.body).1 (frBody r.body).2.1 r.head.terms).2.2 ∈ rows3) = i := by
           rw [Bool.eq_iff_iff, decide_eq_true_eq, d3, LF.out, ← HI.out]
           exact HM.out.symm
          rw [hin] at HAS
          clear hin
          go_wp2_with (first | (go_at_call 7; (with_reducible refine (K.c_num _ _).mono ?_); rintro e wn ⟨rfl, rfl⟩) | (go_at_call 13; (with_reducible refine HAS.out.mono ?_); rintro e wh ⟨rfl, hwh⟩; obtain rfl := hwh.symm) | fail)
          exact leave_true rfl (by omega) (TF.out _ H0.out).1 HDS.out (ext_trans BW0.out H0.out)
end Go.Proofs.YtpgbenijjodoeaaGreat
