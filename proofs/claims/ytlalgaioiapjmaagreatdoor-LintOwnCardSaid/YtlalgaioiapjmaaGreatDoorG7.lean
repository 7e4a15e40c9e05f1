/- Ranges over a function whose iterator hands out what lies in memory: how the statement is entered and left, and one round of it. The walks of schema.uses and its iterator, and of schema.arities.rule. -/
import Derived.Test.YtlalgaioiapjmaaGreatDoorG5
import Derived.BigFrameIn
import Derived.LoopIn
import Derived.RangeFuncOne
import Derived.RangeFuncLeaves
import Derived.RangeFuncRecord
import Derived.RangeFuncSeq
import Derived.RangeFuncCalls
import Derived.Shelf.AbstractIn
namespace Go.Proofs.YtlalgaioiapjmaaGreatDoor
open Go.ChangeShapes Go.WideShapes Go.ChangeAt Go.RowKit Go.Shelf
/-- The loop's record. -/
def loopOf (fn : FuncId) (tmps : Array Value) (ps : Array Tmp) (assign body : Code) (D : Nat) (s : LoopState) (p : Option Code) : Loop := { state := s, pending := p, fn := fn, tmps := tmps, params := ps, assign := assign, body := body, defers := D }
/-- What is asked at a round's end. -/
def rndPost (l : Nat) (r : LoopState → Option Code → Loop) (R : Ending → World → Prop) : Exit → Act → World → Prop
  | .normal, _, W => W.heap[l]? = some (.loop (r .busy none)) ∧ R (.returned (.bool true)) (W.putObj l (.loop (r .ready none)))
  | .exit id, _, W => W.heap[l]? = some (.loop (r .busy none)) ∧ R (.returned (.bool false)) (W.putObj l (.loop (r .done (some (.exit id)))))
  | .ret, _, W => W.heap[l]? = some (.loop (r .busy none)) ∧ R (.returned (.bool false)) (W.putObj l (.loop (r .done (some .ret))))
  | _, _, _ => False
/-- One round, from the walk of what is assigned and of the body. -/
theorem round_of {n l D : Nat} {P : Program} {fn : FuncId} {tmps : Array Value} {ps : Array Tmp} {assign body : Code} {args : Array Value} {W : World} {R : Ending → World → Prop} (hl : W.heap[l]? = some (.loop (loopOf fn tmps ps assign body D .ready none))) (hs : args.size = ps.size)
    (h : assign.wpIn (Fence.wide.inRound l) n P (Exit.then (fun a w => w = W ∧ body.wpIn (Fence.wide.inRound l) n P (rndPost l (loopOf fn tmps ps assign body D) R) a (W.putObj l (.loop (loopOf fn tmps ps assign body D .busy none)))) (fun _ _ _ => False)) { tmps := (ps.zip args).foldl (fun t (p, v) => t.setIfInBounds p v) tmps, defers := [] } W) :
    YieldAt Fence.wide n P l args W R := by
  refine ⟨_, _, _, _, run_yield hl hs, roundIn_of_wpIn trivial (wpIn_mono h ?_)⟩
  intro e a w he
  cases e with
  | normal =>
    obtain ⟨rfl, hb⟩ := he
    refine ⟨_, run_beginRound hl rfl, wpIn_mono hb ?_⟩
    intro e a w he
    cases e with
    | normal => exact ⟨_, _, run_endRound none he.1, he.2⟩
    | exit id => exact ⟨_, _, run_endRound (some (.exit id)) he.1, he.2⟩
    | ret => exact ⟨_, _, run_endRound (some .ret) he.1, he.2⟩
    | goto t => exact he.elim
    | panic c => exact he.elim
    | outgrown => exact he.elim
  | exit id => exact he.elim
  | ret => exact he.elim
  | goto t => exact he.elim
  | panic c => exact he.elim
  | outgrown => exact he.elim
/-- The statement: the record is laid, the iterator runs, the record is closed. -/
theorem range_of {n gf : Nat} {P : Program} {g : Operand} {ps : Array Tmp} {assign body : Code} {Q : Exit → Act → World → Prop} {a : Act} {w : World} {lb : Array Value} (h1 : 1 ≤ n) (hg : a.eval g = .func (.func gf) #[] lb) (eg : ∀ args w, (callFunc gf args).run P w = .ok (.enter gf args) w)
    (h : ∀ fn, CallsIn Fence.wide (n - 1) P gf (#[.func (.yield (w.heap.size + 1)) #[] #[]] ++ lb) ((w.alloc (.deferred (some []))).alloc (.loop (loopOf fn a.tmps ps assign body w.heap.size .ready none))) fun e W => (∃ v, e = .returned v) ∧ ∃ s p, s ≠ LoopState.busy ∧ W.heap[w.heap.size + 1]? = some (.loop (loopOf fn a.tmps ps assign body w.heap.size s p)) ∧
      ((p = none ∧ Q .normal { a with defers := { target := .collected w.heap.size, args := #[] } :: a.defers } (W.putObj (w.heap.size + 1) (.loop (loopOf fn a.tmps ps assign body w.heap.size .exhausted p)))) ∨
       (∃ c, p = some c ∧ c.wpIn Fence.wide n P Q { a with defers := { target := .collected w.heap.size, args := #[] } :: a.defers } (W.putObj (w.heap.size + 1) (.loop (loopOf fn a.tmps ps assign body w.heap.size .exhausted p)))))) :
    (Code.rangeFunc g ps assign body).wpIn Fence.wide n P Q a w := by
  have hro : Fence.wide.round = none := rfl
  refine wpIn_rangeFunc ?_
  intro fn _
  rw [hro]
  have H := h fn
  have EL := run_enterLoop_outer (P := P) (w := w) fn a.tmps ps assign body
  obtain ⟨W1, hW1⟩ : ∃ W1, (w.alloc (.deferred (some []))).alloc (.loop (loopOf fn a.tmps ps assign body w.heap.size .ready none)) = W1 := ⟨_, rfl⟩
  rw [hW1] at H
  refine ⟨w.heap.size + 1, [{ target := .collected w.heap.size, args := #[] }], W1, { target := .fn (.func gf) lb, args := #[.func (.yield (w.heap.size + 1)) #[] #[]] }, W1, gf, #[.func (.yield (w.heap.size + 1)) #[] #[]] ++ lb, W1, ?_, ?_, ?_, ?_, ?_, ?_⟩
  · rw [← hW1]
    exact EL
  · simp only [resolve, hg]
    simp [go_sem]
  · exact fun _ _ => trivial
  · simp [invoke, go_sem, eg]
  · exact fun _ => h1
  · refine H.mono ?_
    rintro e W ⟨⟨v, rfl⟩, s, p, hs, hl, hq⟩
    have EN := run_endLoop (P := P) hl hs
    have e : ({ loopOf fn a.tmps ps assign body w.heap.size s p with state := .exhausted } : Loop) = loopOf fn a.tmps ps assign body w.heap.size .exhausted p := rfl
    rw [e] at EN
    obtain ⟨W2, hW2⟩ : ∃ W2, W.putObj (w.heap.size + 1) (.loop (loopOf fn a.tmps ps assign body w.heap.size .exhausted p)) = W2 := ⟨_, rfl⟩
    rw [hW2] at EN hq
    refine ⟨p, W2, EN, ?_⟩
    rcases hq with ⟨rfl, hq⟩ | ⟨c, rfl, hq⟩
    · exact hq
    · exact hq
end Go.Proofs.YtlalgaioiapjmaaGreatDoor
namespace Go.Proofs.YtlalgaioiapjmaaGreatDoor
open Go.ChangeShapes Go.WideShapes Go.ChangeAt Go.RowKit
open K (AL fitA fitU usesR usesB Rule)
theorem c_uses (r : Rule) (ah : Option Addr) (nh ch : Nat) (ab : Option Addr) (nb cb : Nat) (w : World) :
    Calls Tryz.prog 116 #[.agg #[.string r.head.pred, .slice ah nh ch, .slice ab nb cb]] w fun e w' => e = .returned (.func (.func 147) #[] #[.pointer (some ⟨w.heap.size, 0, none⟩)]) ∧ Ext w w' ∧ w'.cell? ⟨w.heap.size, 0, none⟩ = some (.string r.head.pred) ∧ w'.cell? ⟨w.heap.size, 1, none⟩ = some (.slice ah nh ch) ∧ w'.cell? ⟨w.heap.size, 2, none⟩ = some (.slice ab nb cb) := by
  go_enter Tryz.func116, Tryz.ntmps116
  go_wp2
  go_returns
  exact ⟨rfl, ext_alloc (Below.refl _ _) _, by go_simp, by go_simp, by go_simp⟩
theorem usesB_cons (l : K.Lit) (ls : List K.Lit) : usesB (l :: ls) = if l.kind = 1 ∨ l.kind = 2 then (l.atom.pred, l.atom.terms.length) :: usesB ls else usesB ls := by
  unfold usesB
  by_cases h : l.kind = 1 ∨ l.kind = 2
  · have e : (decide (l.kind = 1) || decide (l.kind = 2)) = true := by simpa using h
    rw [List.filter_cons, if_pos e, if_pos h]
    rfl
  · have e : ¬ (decide (l.kind = 1) || decide (l.kind = 2)) = true := by simpa using h
    rw [List.filter_cons, if_neg e, if_neg h]
theorem at_of_drop {α : Type} {us : List α} {j : Nat} {u : α} {vs : List α} (h : us.drop j = u :: vs) : us[j]? = some u ∧ us.drop (j + 1) = vs := by
  constructor
  · have := congrArg (fun x => x[0]?) h
    simpa using this
  · have := congrArg List.tail h
    simpa [List.tail_drop] using this
/-- What is asked of the loop over what a rule uses. -/
structure UsesJ (r : Rule) (ah : Option Addr) (nh ch : Nat) (ab : Option Addr) (nb cb bx l : Nat) (w0 : World) (J Jx : Nat → World → Prop) : Prop where
  at_ : ∀ k W, J k W → Ext w0 W ∧ W.cell? ⟨bx, 0, none⟩ = some (.string r.head.pred) ∧ W.cell? ⟨bx, 1, none⟩ = some (.slice ah nh ch) ∧ W.cell? ⟨bx, 2, none⟩ = some (.slice ab nb cb)
  ext : ∀ k W W', J k W → Ext W W' → J k W'
  yield : ∀ k u W, (usesR r)[k]? = some u → J k W → YieldAt Fence.wide 3 Tryz.prog l #[.string u.1, .int .i64 (u.2 : Nat)] W fun e W' => (e = .returned (.bool true) ∧ J (k + 1) W') ∨ (e = .returned (.bool false) ∧ ∃ k, Jx k W')
set_option maxRecDepth 100000 in
set_option maxHeartbeats 4000000 in
theorem c_uses1 (r : Rule) (ah : Option Addr) (nh ch : Nat) (ab : Option Addr) (nb cb bx l : Nat) (w0 w : World) (hr : K.RuleV w0 r ah nh ch ab nb cb) (J Jx : Nat → World → Prop) (hj : UsesJ r ah nh ch ab nb cb bx l w0 J Jx) (h0 : J 0 w) :
    CallsIn Fence.wide 4 Tryz.prog 147 #[.func (.yield l) #[] #[], .pointer (some ⟨bx, 0, none⟩)] w fun e W' => (∃ v, e = .returned v) ∧ (J (usesR r).length W' ∨ ∃ k, Jx k W') := by
  obtain rfl : r.head.terms.length = nh := hr.terms.2.1
  obtain ⟨g0, g1, g2, g3⟩ := hj.at_ 0 w h0
  obtain ⟨fn, tmps, assign, body, hy, hR⟩ := hj.yield 0 (r.head.pred, r.head.terms.length) w rfl h0
  have hnb := hr.body.1
  have HL := Lib.hid hr.body.2.1
  have HR := Lib.hid hr
  have HJ := Lib.hid hj
  have HYR := Lib.hid hR
  clear hr hj hR h0
  refine callsIn_of_wp Tryz.func147 rfl trivial ?_ rfl
  simp only [Tryz.ntmps147, List.size_toArray, List.length_cons, List.length_nil, Nat.reduceAdd, Nat.reduceSub, Array.replicate_succ, Array.replicate_zero, List.push_toArray, List.append_toArray, List.nil_append, List.cons_append]
  gi_wp2
  refine HYR.out.mono ?_
  rintro e W1 (⟨rfl, j1⟩ | ⟨rfl, jx⟩)
  rotate_left
  · have JX := Lib.hid jx
    clear jx
    gi_wp2
    exact bodyPost_ret (results_none rfl _ _ _) rfl ⟨⟨_, rfl⟩, .inr JX.out⟩
  obtain ⟨k0, k1, k2, k3⟩ := HJ.out.at_ 1 W1 j1
  have J1 := Lib.hid j1
  clear j1 g0 g1 g2 g3 hy HYR k0
  gi_wp2
  gi_loopw [18] (fun i wr => ∃ k j : Nat, k ≤ nb ∧ i = .int .i64 (k : Int) ∧ J j wr ∧ j ≤ (usesR r).length ∧ (usesR r).drop j = usesB (r.body.drop k)) (fun i _ => nb - (intOf i).toNat)
  case atStart => exact ⟨0, 1, Nat.zero_le _, rfl, J1.out, by simp [usesR], rfl⟩
  case round =>
    obtain ⟨k, j, hk, rfl, hjw, hjl, hd⟩ := hrel
    obtain ⟨k0, k1, k2, k3⟩ := HJ.out.at_ j wr hjw
    have JW := Lib.hid hjw
    have HD := Lib.hid hd
    clear hjw hd
    by_cases hlt : k < nb
    · have hki : (k : Int) < (nb : Int) := by omega
      obtain ⟨x, eb, eo, hx, rfl, a, n, cap, c0, c1, c2, c3, c4, c5, c6, c7, ht, _⟩ := (HR.out.keep k0).body.2.at hlt
      obtain rfl : x.atom.terms.length = n := ht.2.1
      have HX := Lib.hid (drop_at hx)
      clear hx ht k1 k2 k3
      have E1 : Hid (Ext wr (wr.alloc (.cells #[.int .i64 x.kind, .string x.atom.pred, .slice a x.atom.terms.length cap, .int .i64 x.op, .int .i64 x.left.kind, .string x.left.text, .int .i64 x.right.kind, .string x.right.text] 47))) := ext_alloc (Below.refl _ _) _
      have J2 := Lib.hid (HJ.out.ext _ _ _ JW.out E1.out)
      obtain ⟨b1, e1⟩ : ∃ b, (x.kind == 1) = b := ⟨_, rfl⟩
      obtain ⟨b2, e2⟩ : ∃ b, (x.kind == 2) = b := ⟨_, rfl⟩
      have hB : Hid ((x.kind = 1 ∨ x.kind = 2) ↔ (b1 || b2) = true) := by
        show _ ↔ _
        subst e1 e2
        simp
      have HU := Lib.hid (usesB_cons x (r.body.drop (k + 1)))
      rw [HX.out] at HD
      by_cases hu : x.kind = 1 ∨ x.kind = 2
      · have hbb := hB.out.1 hu
        have HD2 : Hid ((usesR r).drop j = (x.atom.pred, x.atom.terms.length) :: usesB (r.body.drop (k + 1))) := by
          have := HU.out
          rw [if_pos hu] at this
          exact HD.out.trans this
        obtain ⟨fn, tmps, assign, body, hy, hR⟩ := HJ.out.yield j _ _ (at_of_drop HD2.out).1 J2.out
        have HYR := Lib.hid hR
        have hj1 : j + 1 ≤ (usesR r).length := (List.getElem?_eq_some_iff.1 (at_of_drop HD2.out).1).1
        clear hR hu
        cases b1
        · cases b2
          · cases hbb
          · gi_wp2
            refine HYR.out.mono ?_
            rintro e W2 (⟨rfl, j1⟩ | ⟨rfl, jx⟩)
            · have J3 := Lib.hid j1
              clear j1
              gi_wp2
              exact ⟨⟨k + 1, j + 1, by omega, by go_num, J3.out, hj1, (at_of_drop HD2.out).2⟩, by simp [intOf]; omega⟩
            · have JX := Lib.hid jx
              clear jx
              gi_wp2
              exact bodyPost_ret (results_none rfl _ _ _) rfl ⟨⟨_, rfl⟩, .inr JX.out⟩
        · gi_wp2
          refine HYR.out.mono ?_
          rintro e W2 (⟨rfl, j1⟩ | ⟨rfl, jx⟩)
          · have J3 := Lib.hid j1
            clear j1
            gi_wp2
            exact ⟨⟨k + 1, j + 1, by omega, by go_num, J3.out, hj1, (at_of_drop HD2.out).2⟩, by simp [intOf]; omega⟩
          · have JX := Lib.hid jx
            clear jx
            gi_wp2
            exact bodyPost_ret (results_none rfl _ _ _) rfl ⟨⟨_, rfl⟩, .inr JX.out⟩
      · have hbb : (b1 || b2) = false := by
          cases h : (b1 || b2)
          · rfl
          · exact absurd (hB.out.2 h) hu
        have HD2 : Hid ((usesR r).drop j = usesB (r.body.drop (k + 1))) := by
          have := HU.out
          rw [if_neg hu] at this
          exact HD.out.trans this
        obtain ⟨rfl, rfl⟩ : b1 = false ∧ b2 = false := by simpa using hbb
        clear hbb hu
        gi_wp2
        refine ⟨fun f h => (by cases h), ?_⟩
        gi_wp2
        exact ⟨⟨k + 1, j, by omega, by go_num, J2.out, hjl, HD2.out⟩, by simp [intOf]; omega⟩
    · have hge : ¬ (k : Int) < (nb : Int) := by omega
      clear k1 k2 k3
      gi_wp2
      go_end0
      refine ⟨⟨_, rfl⟩, .inl ?_⟩
      have h1 := HD.out
      have hL := HL.out
      rw [show r.body.drop k = [] from List.drop_eq_nil_iff.2 (by omega)] at h1
      have h2 : (usesR r).length ≤ j := List.drop_eq_nil_iff.1 h1
      rw [Nat.le_antisymm h2 hjl]
      exact JW.out
end Go.Proofs.YtlalgaioiapjmaaGreatDoor
