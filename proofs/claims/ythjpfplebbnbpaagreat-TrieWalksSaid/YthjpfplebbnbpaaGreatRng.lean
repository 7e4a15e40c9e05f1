/- Ranges over a function whose iterator hands out what lies in memory: how the statement is entered and left, and one round of it. -/
import Derived.Test.YthjpfplebbnbpaaGreatProj
namespace Go.Proofs.YthjpfplebbnbpaaGreat
open Go.ChangeShapes Go.WideShapes Go.ChangeAt Go.RowKit Go.Shelf
/-- The loop's record. -/
def loopOf (fn : FuncId) (tmps : Array Value) (ps : Array Tmp) (assign body : Code) (D : Nat) (s : LoopState) (p : Option Code) : Loop := { state := s, pending := p, fn := fn, tmps := tmps, params := ps, assign := assign, body := body, defers := D }
/-- What is asked at a round's end. -/
def rndPost (l : Nat) (r : LoopState → Option Code → Loop) (R : Ending → World → Prop) : Exit → Act → World → Prop
  | .normal, _, W => W.heap[l]? = some (.loop (r .busy none)) ∧ R (.returned (.bool true)) (W.putObj l (.loop (r .ready none)))
  | .exit id, _, W => W.heap[l]? = some (.loop (r .busy none)) ∧ R (.returned (.bool false)) (W.putObj l (.loop (r .done (some (.exit id)))))
  | .ret, _, W => W.heap[l]? = some (.loop (r .busy none)) ∧ R (.returned (.bool false)) (W.putObj l (.loop (r .done (some .ret))))
  | _, _, _ => False
/-- One round, from the walk of what is assigned and of the body. -/
theorem round_of {n l D : Nat} {P : Program} {fn : FuncId} {tmps : Array Value} {ps : Array Tmp} {assign body : Code} {args : Array Value} {W : World} {R : Ending → World → Prop} (hl : W.heap[l]? = some (.loop (loopOf fn tmps ps assign body D .ready none))) (hs : args.size = ps.size)
    (h : assign.wpIn (Fence.wide.inRound l) n P (Exit.then (fun a w => w = W ∧ body.wpIn (Fence.wide.inRound l) n P (rndPost l (loopOf fn tmps ps assign body D) R) a (W.putObj l (.loop (loopOf fn tmps ps assign body D .busy none)))) (fun _ _ _ => False)) { tmps := (ps.zip args).foldl (fun t (p, v) => t.setIfInBounds p v) tmps, defers := [] } W) :
    YieldAt Fence.wide n P l args W R := by
  refine ⟨_, _, _, _, run_yield hl hs, roundIn_of_wpIn trivial (wpIn_mono h ?_)⟩
  intro e a w he
  cases e with
  | normal =>
    obtain ⟨rfl, hb⟩ := he
    refine ⟨_, run_beginRound hl rfl, wpIn_mono hb ?_⟩
    intro e a w he
    cases e with
    | normal => exact ⟨_, _, run_endRound none he.1, he.2⟩
    | exit id => exact ⟨_, _, run_endRound (some (.exit id)) he.1, he.2⟩
    | ret => exact ⟨_, _, run_endRound (some .ret) he.1, he.2⟩
    | goto t => exact he.elim
    | panic c => exact he.elim
    | outgrown => exact he.elim
  | exit id => exact he.elim
  | ret => exact he.elim
  | goto t => exact he.elim
  | panic c => exact he.elim
  | outgrown => exact he.elim
/-- The statement: the record is laid, the iterator runs, the record is closed. -/
theorem range_of {n gf : Nat} {P : Program} {g : Operand} {ps : Array Tmp} {assign body : Code} {Q : Exit → Act → World → Prop} {a : Act} {w : World} {lb : Array Value} (h1 : 1 ≤ n) (hg : a.eval g = .func (.func gf) #[] lb) (eg : ∀ args w, (callFunc gf args).run P w = .ok (.enter gf args) w)
    (h : ∀ fn, CallsIn Fence.wide (n - 1) P gf (#[.func (.yield (w.heap.size + 1)) #[] #[]] ++ lb) ((w.alloc (.deferred (some []))).alloc (.loop (loopOf fn a.tmps ps assign body w.heap.size .ready none))) fun e W => (∃ v, e = .returned v) ∧ ∃ s p, s ≠ LoopState.busy ∧ W.heap[w.heap.size + 1]? = some (.loop (loopOf fn a.tmps ps assign body w.heap.size s p)) ∧
      ((p = none ∧ Q .normal { a with defers := { target := .collected w.heap.size, args := #[] } :: a.defers } (W.putObj (w.heap.size + 1) (.loop (loopOf fn a.tmps ps assign body w.heap.size .exhausted p)))) ∨
       (∃ c, p = some c ∧ c.wpIn Fence.wide n P Q { a with defers := { target := .collected w.heap.size, args := #[] } :: a.defers } (W.putObj (w.heap.size + 1) (.loop (loopOf fn a.tmps ps assign body w.heap.size .exhausted p)))))) :
    (Code.rangeFunc g ps assign body).wpIn Fence.wide n P Q a w := by
  have hro : Fence.wide.round = none := rfl
  refine wpIn_rangeFunc ?_
  intro fn _
  rw [hro]
  have H := h fn
  have EL := run_enterLoop_outer (P := P) (w := w) fn a.tmps ps assign body
  obtain ⟨W1, hW1⟩ : ∃ W1, (w.alloc (.deferred (some []))).alloc (.loop (loopOf fn a.tmps ps assign body w.heap.size .ready none)) = W1 := ⟨_, rfl⟩
  rw [hW1] at H
  refine ⟨w.heap.size + 1, [{ target := .collected w.heap.size, args := #[] }], W1, { target := .fn (.func gf) lb, args := #[.func (.yield (w.heap.size + 1)) #[] #[]] }, W1, gf, #[.func (.yield (w.heap.size + 1)) #[] #[]] ++ lb, W1, ?_, ?_, ?_, ?_, ?_, ?_⟩
  · rw [← hW1]
    exact EL
  · simp only [resolve, hg]
    simp [go_sem]
  · exact fun _ _ => trivial
  · simp [invoke, go_sem, eg]
  · exact fun _ => h1
  · refine H.mono ?_
    rintro e W ⟨⟨v, rfl⟩, s, p, hs, hl, hq⟩
    have EN := run_endLoop (P := P) hl hs
    have e : ({ loopOf fn a.tmps ps assign body w.heap.size s p with state := .exhausted } : Loop) = loopOf fn a.tmps ps assign body w.heap.size .exhausted p := rfl
    rw [e] at EN
    obtain ⟨W2, hW2⟩ : ∃ W2, W.putObj (w.heap.size + 1) (.loop (loopOf fn a.tmps ps assign body w.heap.size .exhausted p)) = W2 := ⟨_, rfl⟩
    rw [hW2] at EN hq
    refine ⟨p, W2, EN, ?_⟩
    rcases hq with ⟨rfl, hq⟩ | ⟨c, rfl, hq⟩
    · exact hq
    · exact hq
end Go.Proofs.YthjpfplebbnbpaaGreat
