/- A program that comes in, opened. -/
import Derived.Test.YtcphjfggjjonpaaOpen
import Derived.Test.YtcphjfggjjonpaaRls
import Derived.Carry
namespace Go.Proofs.Ytcphjfggjjonpaa
open Go.ChangeShapes Go.WideShapes Go.ChangeAt Go.RowKit Go.Deep
theorem cells_rules : Try.prog.cellsOf 55 = 1 := by kernel_rfl
theorem one_of {α : Type} {l : List α} (h : l.length = 1) : ∃ a, l = [a] := by
  match l, h with
  | [a], _ => exact ⟨a, rfl⟩
instance : Inhabited Rule := ⟨⟨⟨⟨#[]⟩, []⟩, []⟩⟩
section
variable {H : Type} {enc : TypeId × Value → H}
set_option maxRecDepth 20000 in
theorem rules_of {W : World} {base : Nat} {n : Nat} {cs : List Value} {x : DataW H × List MemPlace} (h : DataW.trod enc Try.prog W base (fun _ => true) true n 55 cs = some x) (hw : ∀ k ∈ x.1.weights Try.prog 55, k ≤ reachBytes) :
    ∃ (a : Option Addr) (len cap : Nat) (rs : List Rule), cs = [.slice a len cap] ∧ RulesAt W a len rs ∧ capOk a len cap := by
  rcases open_slice Try.underlying55 h with ⟨rfl, rfl⟩ | ⟨a, len, cap, m, n', D, Pl, rfl, hb, hl, hm, hmm, rfl, hx⟩
  · exact ⟨none, 0, 0, [], rfl, ⟨Nat.zero_le _, rfl, by simp⟩, Nat.le_refl _, fun _ => ⟨rfl, rfl⟩⟩
  · simp only [if_true] at hmm
    subst hmm
    rw [cells_rule] at hx
    rw [DataW.weights, Try.underlying55] at hw
    have hD : ∀ i, i < len → ∀ k ∈ (D i).weights Try.prog 27, k ≤ reachBytes := fun i hi k hk => hw k (List.mem_cons_of_mem _ (List.mem_append.2 (.inl (weights_mem (List.mem_map.2 ⟨i, List.mem_range.2 hi, rfl⟩) k hk))))
    obtain ⟨T, hT⟩ := choose_lt (α := Rule) (n := len) (p := fun i r => ∃ (ah : Option Addr) (nh ch : Nat) (ab : Option Addr) (nb cb : Nat), W.cells? base (a.add (i * 3)) 3 = some [.string r.head.pred, .slice ah nh ch, .slice ab nb cb] ∧ RuleV W r ah nh ch ab nb cb) (fun i hi => by
      obtain ⟨cs', h1, h2⟩ := hx i (by omega)
      obtain ⟨r, ah, nh, ch, ab, nb, cb, rfl, h3⟩ := rule_of h2 (hD i hi)
      exact ⟨r, ah, nh, ch, ab, nb, cb, h1, h3⟩)
    refine ⟨some a, len, m, (List.range len).map T, rfl, ⟨?_, by simp, fun i t ht => ?_⟩, hl, by intro h; cases h⟩
    · have := hw _ List.mem_cons_self
      simp only [List.length_map, List.length_range] at this
      rw [show Try.prog.bytesOf 27 = 64 by kernel_rfl] at this
      unfold reachBytes at this
      omega
    · obtain ⟨hi, rfl⟩ : i < len ∧ T i = t := by
        have hi := (List.getElem?_eq_some_iff.1 ht).1
        simp at hi
        refine ⟨hi, ?_⟩
        simpa [hi] using ht
      have hs : a = ⟨a.block, a.off, none⟩ := by
        obtain ⟨_, _, _, _, _, _, h00, _⟩ := hT 0 (by omega)
        have h0 := (World.cells?_some h00).2.2 0 (by decide)
        rw [Nat.zero_mul] at h0
        exact spot_of h0
      obtain ⟨ah, nh, ch, ab, nb, cb, h1, h2⟩ := hT i hi
      have hc := elem_cells hs h1
      exact ⟨a.block, a.off, congrArg some hs, ah, nh, ch, ab, nb, cb, hc 0 (by decide), hc 1 (by decide), hc 2 (by decide), h2⟩
theorem prog_of {W : World} {base : Nat} {n : Nat} {cs : List Value} {x : DataW H × List MemPlace} (h : DataW.trod enc Try.prog W base (fun _ => true) true n 57 cs = some x) (hw : ∀ k ∈ x.1.weights Try.prog 57, k ≤ reachBytes) :
    ∃ (a : Option Addr) (len cap : Nat) (rs : List Rule), cs = [.slice a len cap] ∧ RulesAt W a len rs ∧ capOk a len cap := by
  obtain ⟨xs, m, _, rfl, hl, hlen, hf⟩ := DataW.trod_struct Try.underlying57 h
  rw [show Try.prog.cellsOf 57 = 1 by kernel_rfl] at hl
  obtain ⟨c0, rfl⟩ := one_of hl
  obtain ⟨y0, rfl⟩ := one_of hlen
  have u0 : DataW.trod enc Try.prog W base (fun _ => true) true m 55 [c0] = some y0 := by simpa [cells_rules] using hf 0 _ rfl
  exact rules_of u0 (fun k hk => hw k (by
    rw [DataW.weights, Try.underlying57]
    simp [DataW.weightsEach, hk]))
set_option maxRecDepth 100000 in
theorem open_prog {W : World} {base : Nat} {v : Value} {d : DataW H} {p : List MemPlace} (hval : Value.okWide Try.prog W .any base 57 v) (h : DataW.Trod enc Try.prog W 0 (fun _ => true) true 57 v d p) (hw : ∀ k ∈ d.weights Try.prog 57, k ≤ reachBytes) :
    ∃ (rs : List Rule) (a : Option Addr) (n cap : Nat), v = .agg #[.slice a n cap] ∧ RulesAt W a n rs ∧ capOk a n cap := by
  unfold Value.okWide at hval
  rw [Try.underlying57] at hval
  obtain ⟨cs, rfl, _⟩ := hval
  obtain ⟨n, hn⟩ := h
  obtain ⟨a, len, cap, rs, hc, hr, hcap⟩ := prog_of hn hw
  refine ⟨rs, a, len, cap, ?_, hr, hcap⟩
  have e : cs.toList = [.slice a len cap] := hc
  obtain ⟨l⟩ := cs
  cases e
  rfl
end
end Go.Proofs.Ytcphjfggjjonpaa
