/- The walk of lint.sure (begun). -/
import Derived.Test.YtlalgaioiapjmaaGreatDoorG24
namespace Go.Proofs.YtlalgaioiapjmaaGreatDoor
open Go.ChangeShapes Go.WideShapes Go.ChangeAt Go.RowKit
open K (Term TermsAt termEq termEq_iff)
theorem two_blk (W : World) (x0 x1 y0 y1 : Value) (t : TypeId) : Blk ((W.alloc (.cells #[x0, x1] t)).alloc (.cells #[y0, y1] t)).drew W.heap.size t [x0, x1] ∧ Blk ((W.alloc (.cells #[x0, x1] t)).alloc (.cells #[y0, y1] t)).drew (W.heap.size + 1) t [y0, y1] ∧ Ext W ((W.alloc (.cells #[x0, x1] t)).alloc (.cells #[y0, y1] t)).drew := by
  refine ⟨(Blk.new W [x0, x1] t).ext (ext_drew (ext_alloc (Below.refl _ _) _)), ?_, ext_drew (ext_alloc (ext_alloc (Below.refl _ _) _) _)⟩
  have := (Blk.new (W.alloc (.cells #[x0, x1] t)) [y0, y1] t).ext (ext_drew (Below.refl _ _))
  rw [World.size_alloc] at this
  exact this
/-- Whether a comparison is always one thing, and what. -/
def sureS (l : K.Lit) : Bool × Bool :=
  if l.left.kind = 3 ∧ l.right.kind = 3 then
    (true, if l.op = 1 then cmpT l.left.text l.right.text == 0 else if l.op = 2 then cmpT l.left.text l.right.text != 0 else if l.op = 3 then decide (cmpT l.left.text l.right.text < 0) else if l.op = 4 then decide (cmpT l.left.text l.right.text ≤ 0) else false)
  else if l.left = l.right then (true, decide (l.op = 1) || decide (l.op = 4))
  else (false, false)
set_option maxRecDepth 100000 in
set_option maxHeartbeats 4000000 in
theorem c_sure (l : K.Lit) (a : Option Addr) (n c : Nat) (w : World) (hop : 0 ≤ l.op ∧ l.op ≤ 4) :
    Calls Tryz.prog 34 #[.agg #[.int .i64 l.kind, .string l.atom.pred, .slice a n c, .int .i64 l.op, .int .i64 l.left.kind, .string l.left.text, .int .i64 l.right.kind, .string l.right.text]] w fun e w' => e = .returned (.tuple #[.bool (sureS l).1, .bool (sureS l).2]) ∧ Ext w w' := by
  go_enter Tryz.func34, Tryz.ntmps34
  go_upto_region 1 with (fail)
  refine wp_gen (fun W hW => ?_)
  have E0 : Ext w W := by rw [hW]; exact ext_alloc (Below.refl _ _) _
  have B0 : Blk W w.heap.size 47 [.int .i64 l.kind, .string l.atom.pred, .slice a n c, .int .i64 l.op, .int .i64 l.left.kind, .string l.left.text, .int .i64 l.right.kind, .string l.right.text] := by
    rw [hW]
    exact Blk.new w [.int .i64 l.kind, .string l.atom.pred, .slice a n c, .int .i64 l.op, .int .i64 l.left.kind, .string l.left.text, .int .i64 l.right.kind, .string l.right.text] 47
  obtain ⟨lb, hlb⟩ : ∃ lb, w.heap.size = lb := ⟨_, rfl⟩
  rw [hlb] at B0 ⊢
  have HB := Lib.hid B0
  have HE := Lib.hid E0
  clear hW B0 E0 hlb
  go_cut [4, 5] (fun v4 v5 wc => ∃ p q, v4 = .pointer (some ⟨p, 0, none⟩) ∧ v5 = .pointer (some ⟨q, 0, none⟩) ∧ Blk wc p 42 [.int .i64 l.left.kind, .string l.left.text] ∧ Blk wc q 42 [.int .i64 l.right.kind, .string l.right.text] ∧ Ext W wc)
  case first =>
    have X : Hid (∀ w', Ext W w' → w'.cell? ⟨lb, 4, none⟩ = some (.int .i64 l.left.kind) ∧ w'.cell? ⟨lb, 5, none⟩ = some (.string l.left.text) ∧ w'.cell? ⟨lb, 6, none⟩ = some (.int .i64 l.right.kind) ∧ w'.cell? ⟨lb, 7, none⟩ = some (.string l.right.text)) := fun w' e => by
      have b := HB.out.ext e
      exact ⟨b.cell rfl, b.cell rfl, b.cell rfl, b.cell rfl⟩
    have hX := X.out W (Below.refl _ _)
    have hXa := fun o => X.out (W.alloc o) (ext_alloc (Below.refl _ _) _)
    have hXb := fun o o' => X.out ((W.alloc o).alloc o') (ext_alloc (ext_alloc (Below.refl _ _) _) _)
    have mixed : Tryz.prog.follows .mixedOrders = true := by kernel_rfl
    have TA := two_blk W (.int .i64 l.left.kind) (.string l.left.text) (.int .i64 l.right.kind) (.string l.right.text) 42
    have TB := two_blk W (.int .i64 l.right.kind) (.string l.right.text) (.int .i64 l.left.kind) (.string l.left.text) 42
    have HTA := Lib.hid TA
    have HTB := Lib.hid TB
    clear TA TB
    go_region_law (fail)
    all_goals
      go_wp2
      go_meet
      first
        | exact ⟨_, _, rfl, rfl, HTA.out.1, HTA.out.2.1, HTA.out.2.2⟩
        | exact ⟨_, _, rfl, rfl, HTB.out.2.1, HTB.out.1, HTB.out.2.2⟩
  obtain ⟨p, q, rfl, rfl, bp, bq, e1⟩ := hcut
  have x2 := (HB.out.ext e1).cell (i := 3) rfl
  have hE : Hid (Ext w wc) := ext_trans HE.out e1
  have p0 := bp.cell (i := 0) rfl
  have p1 := bp.cell (i := 1) rfl
  have q0 := bq.cell (i := 0) rfl
  have q1 := bq.cell (i := 1) rfl
  obtain ⟨op, hopq⟩ : ∃ op, l.op = op := ⟨_, rfl⟩
  obtain ⟨cv, hcv⟩ : ∃ cv, cmpT l.left.text l.right.text = cv := ⟨_, rfl⟩
  obtain ⟨te, hte⟩ : ∃ b, termEq l.left.kind l.left.text l.right.kind l.right.text = b := ⟨_, rfl⟩
  have SU : Hid (sureS l = if l.left.kind = 3 ∧ l.right.kind = 3 then
    (true, if op = 1 then cv == 0 else if op = 2 then cv != 0 else if op = 3 then decide (cv < 0) else if op = 4 then decide (cv ≤ 0) else false)
  else if te = true then (true, decide (op = 1) || decide (op = 4)) else (false, false)) := by
    show _ = _
    unfold sureS
    rw [hopq, hcv]
    have h1 : (l.left = l.right) ↔ te = true := by
      rw [← hte, termEq_iff, decide_eq_true_iff]
    simp only [h1]
  have CM := Lib.hid (c_cmpT l.left.text l.right.text wc)
  rw [hcv] at CM
  have tq : ∀ W, (binOp .eql 42 (.agg #[.int .i64 l.left.kind, .string l.left.text]) (.agg #[.int .i64 l.right.kind, .string l.right.text])).run Tryz.prog W = .ok (.bool te) W := fun W => by rw [← hte]; exact K.eql_term _ _ _ _ W
  rw [hopq] at x2 hop
  have hop5 : op = 0 ∨ op = 1 ∨ op = 2 ∨ op = 3 ∨ op = 4 := by omega
  clear hcv hte hop e1 bp bq HE hopq
  obtain ⟨b1, hb1⟩ : ∃ b, (l.left.kind == 3) = b := ⟨_, rfl⟩
  obtain ⟨b2, hb2⟩ : ∃ b, (l.right.kind == 3) = b := ⟨_, rfl⟩
  have KK : Hid ((l.left.kind = 3 ∧ l.right.kind = 3) ↔ (b1 && b2) = true) := by
    show _ ↔ _
    rw [← hb1, ← hb2]
    simp
  cases b1 with
  | false =>
    have SU2 : Hid (sureS l = if te = true then (true, decide (op = 1) || decide (op = 4)) else (false, false)) := by
      show _ = _
      rw [SU.out, if_neg (fun h => by have := KK.out.1 h; simp at this)]
    cases te with
    | true =>
      go_upto_region 6 with (fail)
      rcases hop5 with rfl | rfl | rfl | rfl | rfl
      all_goals
        go_quiet (fail)
        go_wp2
        go_returns
        exact ⟨by rw [SU2.out]; rfl, ext_drewN hE.out _⟩
    | false =>
      go_wp2
      go_returns
      exact ⟨by rw [SU2.out]; rfl, hE.out⟩
  | true =>
    cases b2 with
    | false =>
      have SU2 : Hid (sureS l = if te = true then (true, decide (op = 1) || decide (op = 4)) else (false, false)) := by
        show _ = _
        rw [SU.out, if_neg (fun h => by have := KK.out.1 h; simp at this)]
      cases te with
      | true =>
        go_upto_region 6 with (fail)
        rcases hop5 with rfl | rfl | rfl | rfl | rfl
        all_goals
          go_quiet (fail)
          go_wp2
          go_returns
          exact ⟨by rw [SU2.out]; rfl, ext_drewN hE.out _⟩
      | false =>
        go_wp2
        go_returns
        exact ⟨by rw [SU2.out]; rfl, hE.out⟩
    | true =>
      go_upto_region 4 with (go_at_call 22; (with_reducible refine CM.out.mono ?_); rintro e w2 ⟨rfl, hw⟩; obtain rfl := hw.symm)
      rcases hop5 with rfl | rfl | rfl | rfl | rfl
      all_goals
        have I5 := fun W => idx5 false (cv == 0) (cv != 0) (decide (cv < 0)) (decide (cv ≤ 0)) W
        go_quiet (fail)
        go_wp2
        go_returns
        exact ⟨by rw [SU.out, if_pos (KK.out.2 rfl)]; rfl, ext_drewN hE.out _⟩
end Go.Proofs.YtlalgaioiapjmaaGreatDoor
