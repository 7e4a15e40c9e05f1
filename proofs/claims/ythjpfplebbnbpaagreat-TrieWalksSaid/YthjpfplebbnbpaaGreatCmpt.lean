/- A list of rows without the alikes that stand side by side: a plain law. -/
import Derived.Test.YthjpfplebbnbpaaGreatEq
namespace Go.Proofs.YthjpfplebbnbpaaGreat
open Go.ChangeShapes Go.WideShapes Go.ChangeAt Go.RowKit
/-- The list of rows in the order of rows (alikes may stand side by side). -/
def Sorted (ws : List (List ByteArray)) : Prop := ws.Pairwise fun x y => ¬ cmpRow y x < 0
/-- The list without alikes side by side. -/
def cmpt (l : List (List ByteArray)) : List (List ByteArray) := l.foldl (fun acc x => if acc.getLast? = some x then acc else acc ++ [x]) []
theorem cmpt_snoc (l : List (List ByteArray)) (x : List ByteArray) : cmpt (l ++ [x]) = if (cmpt l).getLast? = some x then cmpt l else cmpt l ++ [x] := by
  unfold cmpt
  rw [List.foldl_append]
  rfl
theorem snoc_ind {α : Type} {P : List α → Prop} (h0 : P []) (h1 : ∀ l x, P l → P (l ++ [x])) (l : List α) : P l := by
  have : ∀ n (l : List α), l.length = n → P l := by
    intro n
    induction n with
    | zero => intro l hl; rw [List.eq_nil_of_length_eq_zero hl]; exact h0
    | succ n ih =>
      intro l hl
      have hne : l ≠ [] := by intro e; rw [e] at hl; simp at hl
      rw [← List.dropLast_concat_getLast hne]
      exact h1 _ _ (ih _ (by rw [List.length_dropLast]; omega))
  exact this _ l rfl
theorem cmpt_last (l : List (List ByteArray)) : (cmpt l).getLast? = l.getLast? := by
  refine snoc_ind (P := fun l => (cmpt l).getLast? = l.getLast?) rfl (fun l x _ => ?_) l
  rw [cmpt_snoc]
  split
  · rename_i h
    rw [h]
    simp
  · simp
theorem cmpt_len (l : List (List ByteArray)) : (cmpt l).length ≤ l.length := by
  refine snoc_ind (P := fun l => (cmpt l).length ≤ l.length) (Nat.le_refl _) (fun l x ih => ?_) l
  rw [cmpt_snoc]
  split <;> simp <;> omega
theorem cmpt_spec (l : List (List ByteArray)) : Sorted l → Rising (cmpt l) ∧ ∀ x, x ∈ cmpt l ↔ x ∈ l := by
  refine snoc_ind (P := fun l => Sorted l → Rising (cmpt l) ∧ ∀ x, x ∈ cmpt l ↔ x ∈ l) (fun _ => ⟨List.Pairwise.nil, fun _ => Iff.rfl⟩) (fun l x ih hs => ?_) l
  obtain ⟨s1, _, s2⟩ := List.pairwise_append.1 hs
  obtain ⟨r1, r2⟩ := ih s1
  have hx : ∀ y ∈ l, ¬ cmpRow x y < 0 := fun y hy => s2 y hy x (List.mem_singleton.2 rfl)
  rw [cmpt_snoc]
  split
  · rename_i h
    refine ⟨r1, fun y => ?_⟩
    rw [r2, List.mem_append, List.mem_singleton]
    refine ⟨.inl, ?_⟩
    rintro (h1 | rfl)
    · exact h1
    · exact (r2 y).1 (List.mem_of_getLast? h)
  · rename_i h
    refine ⟨List.pairwise_append.2 ⟨r1, List.pairwise_singleton _ _, fun y hy z hz => ?_⟩, fun y => by rw [List.mem_append, List.mem_append, r2]⟩
    rw [List.mem_singleton] at hz
    subst hz
    have hge := hx y ((r2 y).1 hy)
    have hsw := cmpRow_swap y z
    by_cases h0 : cmpRow y z = 0
    · exfalso
      have e := (cmpRow_zero y z).1 h0
      subst e
      have hne : cmpt l ≠ [] := fun e => by rw [e] at hy; cases hy
      have hl := List.getLast?_eq_some_getLast hne
      have hmem := List.getLast_mem hne
      have hxl := hx _ ((r2 _).1 hmem)
      rw [← List.dropLast_concat_getLast hne] at hy r1
      rcases List.mem_append.1 hy with h1 | h1
      · exact hxl ((List.pairwise_append.1 r1).2.2 y h1 _ (List.mem_singleton.2 rfl))
      · rw [List.mem_singleton] at h1
        rw [hl, ← h1] at h
        exact h rfl
    · omega
/-- Two rising lists with the same rows are one. -/
theorem rising_ext : ∀ {l m : List (List ByteArray)}, Rising l → Rising m → (∀ x, x ∈ l ↔ x ∈ m) → l = m
  | [], [], _, _, _ => rfl
  | [], y :: m, _, _, h => by have := (h y).2 (List.mem_cons_self ..); cases this
  | x :: l, [], _, _, h => by have := (h x).1 (List.mem_cons_self ..); cases this
  | x :: l, y :: m, hl, hm, h => by
    obtain ⟨l1, l2⟩ := List.pairwise_cons.1 hl
    obtain ⟨m1, m2⟩ := List.pairwise_cons.1 hm
    have irr : ∀ z : List ByteArray, ¬ cmpRow z z < 0 := fun z => by rw [(cmpRow_zero z z).2 rfl]; omega
    have hxy : x = y := by
      rcases List.mem_cons.1 ((h x).1 (List.mem_cons_self ..)) with e | e
      · exact e
      · rcases List.mem_cons.1 ((h y).2 (List.mem_cons_self ..)) with e2 | e2
        · exact e2.symm
        · exact absurd (cmpRow_trans _ _ _ (m1 x e) (l1 y e2)) (irr y)
    subst hxy
    rw [rising_ext l2 m2 fun z => ?_]
    have hz := h z
    rw [List.mem_cons, List.mem_cons] at hz
    constructor
    · intro h1
      rcases hz.1 (.inr h1) with e | e
      · subst e
        exact absurd (l1 z h1) (irr z)
      · exact e
    · intro h1
      rcases hz.2 (.inr h1) with e | e
      · subst e
        exact absurd (m1 z h1) (irr z)
      · exact e
end Go.Proofs.YthjpfplebbnbpaaGreat
