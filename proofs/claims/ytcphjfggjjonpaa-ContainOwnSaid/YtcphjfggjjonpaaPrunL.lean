/- The plain law of pruned programs: the program's way, by a list from which rules go, and the document's, by marks, come to the same. No conditions. -/
import Derived.Test.YtcphjfggjjonpaaHom
namespace Go.Proofs.Ytcphjfggjjonpaa
def mayRules : List Rule → Int
  | [] => 0
  | r :: l => if mayRule r ≠ 0 then mayRule r else mayRules l
def mayProg (rs : List Rule) : Int := if 1024 < rs.length then 81 else mayRules rs
inductive Sc where
  | err (e : Int)
  | yes
  | no
  deriving DecidableEq
/-- Is a rule within one of these? -/
def scanW (x : Rule) : List Rule → Sc
  | [] => .no
  | s :: l => if (plain s && plain x) = false then scanW x l
    else if (laid x s).1 ≠ 0 then .err (laid x s).1
    else if (laid x s).2.isSome = true then .yes
    else scanW x l
theorem scanW_append (x : Rule) (a b : List Rule) : scanW x (a ++ b) = match scanW x a with
    | .no => scanW x b
    | r => r := by
  induction a with
  | nil => rfl
  | cons s l ih =>
    rw [List.cons_append, scanW, scanW]
    by_cases h1 : (plain s && plain x) = false
    · rw [if_pos h1, if_pos h1]; exact ih
    · rw [if_neg h1, if_neg h1]
      by_cases h2 : (laid x s).1 ≠ 0
      · rw [if_pos h2, if_pos h2]
      · rw [if_neg h2, if_neg h2]
        by_cases h3 : (laid x s).2.isSome = true
        · rw [if_pos h3, if_pos h3]
        · rw [if_neg h3, if_neg h3]; exact ih
theorem scanW_unplain (x : Rule) (h : plain x = false) (l : List Rule) : scanW x l = .no := by
  induction l with
  | nil => rfl
  | cons s l ih => rw [scanW, if_pos (by rw [h, Bool.and_false])]; exact ih
/-- The program's way: from the last rule on. -/
def pruneGo : Nat → List Rule → Int × Option (List Rule)
  | 0, left => (0, some left)
  | i + 1, left => match left[i]? with
    | none => pruneGo i left
    | some x => match scanW x (left.eraseIdx i) with
      | .err e => (e, none)
      | .yes => pruneGo i (left.eraseIdx i)
      | .no => pruneGo i left
def prune (rs : List Rule) : Int × Option (List Rule) := if mayProg rs ≠ 0 then (mayProg rs, none) else pruneGo rs.length rs
/-- Rules with marks: those that are not marked. -/
def kept : List (Rule × Bool) → List Rule
  | [] => []
  | (r, g) :: l => if g = true then kept l else r :: kept l
theorem kept_append (a b : List (Rule × Bool)) : kept (a ++ b) = kept a ++ kept b := by
  induction a with
  | nil => rfl
  | cons p a ih =>
    obtain ⟨r, g⟩ := p
    rw [List.cons_append, kept, kept]
    by_cases h : g = true
    · rw [if_pos h, if_pos h, ih]
    · rw [if_neg h, if_neg h, ih, List.cons_append]
theorem kept_none (rs : List Rule) : kept (rs.map fun r => (r, false)) = rs := by
  induction rs with
  | nil => rfl
  | cons r l ih => simp [kept, ih]
/-- The document's inner loop: over all rules but number i, and but the marked ones. -/
def scanD (x : Rule) (i : Nat) : List (Rule × Bool) → Nat → Sc
  | [], _ => .no
  | (s, g) :: l, k => if k = i ∨ g = true ∨ plain s = false then scanD x i l (k + 1)
    else if (laid x s).1 ≠ 0 then .err (laid x s).1
    else if (laid x s).2.isSome = true then .yes
    else scanD x i l (k + 1)
theorem scanD_past (x : Rule) (hx : plain x = true) (i : Nat) (l : List (Rule × Bool)) (k : Nat) (h : i < k ∨ k + l.length ≤ i) : scanD x i l k = scanW x (kept l) := by
  induction l generalizing k with
  | nil => rfl
  | cons p l ih =>
    obtain ⟨s, g⟩ := p
    rw [List.length_cons] at h
    rw [scanD, kept]
    by_cases hg : g = true
    · rw [if_pos (.inr (.inl hg)), if_pos hg]
      exact ih (k + 1) (by omega)
    · rw [if_neg hg, scanW, hx, Bool.and_true]
      by_cases hs : plain s = false
      · rw [if_pos (.inr (.inr hs)), if_pos hs]
        exact ih (k + 1) (by omega)
      · rw [if_neg (fun hh => by
          rcases hh with h1 | h1 | h1
          · omega
          · exact hg h1
          · exact hs h1), if_neg hs, ih (k + 1) (by omega)]
theorem scanD_append (x : Rule) (i : Nat) (a b : List (Rule × Bool)) (k : Nat) : scanD x i (a ++ b) k = match scanD x i a k with
    | .no => scanD x i b (k + a.length)
    | r => r := by
  induction a generalizing k with
  | nil => rfl
  | cons p a ih =>
    obtain ⟨s, g⟩ := p
    rw [List.cons_append, scanD, scanD, List.length_cons, show k + (a.length + 1) = k + 1 + a.length by omega]
    by_cases h1 : k = i ∨ g = true ∨ plain s = false
    · rw [if_pos h1, if_pos h1]; exact ih (k + 1)
    · rw [if_neg h1, if_neg h1]
      by_cases h2 : (laid x s).1 ≠ 0
      · rw [if_pos h2, if_pos h2]
      · rw [if_neg h2, if_neg h2]
        by_cases h3 : (laid x s).2.isSome = true
        · rw [if_pos h3, if_pos h3]
        · rw [if_neg h3, if_neg h3]; exact ih (k + 1)
/-- The document's way. -/
def pruneD : Nat → List (Rule × Bool) → Int × Option (List (Rule × Bool))
  | 0, l => (0, some l)
  | i + 1, l => match l[i]? with
    | none => pruneD i l
    | some (x, _) => if plain x = false then pruneD i l
      else match scanD x i l 0 with
        | .err e => (e, none)
        | .yes => pruneD i (l.set i (x, true))
        | .no => pruneD i l
theorem prune_same (i : Nat) (a : List Rule) (b : List (Rule × Bool)) (h : a.length = i) :
    pruneGo i (a ++ kept b) = ((pruneD i (a.map (fun r => (r, false)) ++ b)).1, (pruneD i (a.map (fun r => (r, false)) ++ b)).2.map kept) := by
  induction i generalizing a b with
  | zero =>
    obtain rfl := List.eq_nil_of_length_eq_zero h
    simp [pruneGo, pruneD]
  | succ i ih =>
    obtain ⟨a', x, rfl⟩ : ∃ a' x, a = a' ++ [x] := by
      have hne : a ≠ [] := by intro e; rw [e] at h; cases h
      exact ⟨a.dropLast, a.getLast hne, (List.dropLast_concat_getLast hne).symm⟩
    have ha : a'.length = i := by simpa using h
    have e1 : ((a' ++ [x]) ++ kept b)[i]? = some x := by
      rw [List.append_assoc, List.getElem?_append_right (by omega), ha]
      simp
    have e2 : (((a' ++ [x]).map fun r => (r, false)) ++ b)[i]? = some (x, false) := by
      rw [List.map_append, List.append_assoc, List.getElem?_append_right (by simp [ha]), List.length_map, ha]
      simp
    have e3 : ((a' ++ [x]) ++ kept b).eraseIdx i = a' ++ kept b := by
      rw [List.append_assoc, List.eraseIdx_append_of_length_le (by omega), ha]
      simp
    have e4 : (((a' ++ [x]).map fun r => (r, false)) ++ b) = (a'.map fun r => (r, false)) ++ (x, false) :: b := by simp
    have e5 : (((a' ++ [x]).map fun r => (r, false)) ++ b).set i (x, true) = (a'.map fun r => (r, false)) ++ (x, true) :: b := by
      rw [e4, List.set_append_right _ _ (by simp [ha])]
      simp [ha]
    have k1 : kept ((x, false) :: b) = x :: kept b := by simp [kept]
    have k2 : kept ((x, true) :: b) = kept b := by simp [kept]
    rw [pruneGo, pruneD, e1, e2]
    simp only
    rw [e3]
    by_cases hx : plain x = false
    · rw [if_pos hx, scanW_unplain x hx]
      simp only
      rw [e4]
      have := ih a' ((x, false) :: b) ha
      rw [k1] at this
      rw [List.append_assoc]
      exact this
    · rw [if_neg hx]
      have hx : plain x = true := by simpa using hx
      have e6 : scanD x i (((a' ++ [x]).map fun r => (r, false)) ++ b) 0 = scanW x (a' ++ kept b) := by
        rw [e4, scanD_append, scanW_append, scanD_past x hx i _ 0 (.inr (by simp [ha])), kept_none, List.length_map, ha, Nat.zero_add, scanD, if_pos (.inl rfl), scanD_past x hx i b (i + 1) (.inl (by omega))]
      rw [e6]
      cases scanW x (a' ++ kept b) with
      | err e => rfl
      | yes =>
        simp only
        rw [e5]
        have := ih a' ((x, true) :: b) ha
        rw [k2] at this
        exact this
      | no =>
        simp only
        rw [e4]
        have := ih a' ((x, false) :: b) ha
        rw [k1] at this
        rw [List.append_assoc]
        exact this
theorem prune_law (rs : List Rule) : pruneGo rs.length rs = ((pruneD rs.length (rs.map fun r => (r, false))).1, (pruneD rs.length (rs.map fun r => (r, false))).2.map kept) := by
  have := prune_same rs.length rs [] rfl
  simpa [kept] using this
/-- Plain rules of unlike heads: the one is not within the other. -/
theorem laid_pred {x s : Rule} (h : s.head.pred ≠ x.head.pred) (hx : plain x = true) (hs : plain s = true) : laid x s = (0, none) := by
  unfold laid
  rw [if_neg (by rw [(plain_may hx).1]; simp), if_neg (by rw [(plain_may hs).1]; simp), if_neg (by rw [hx, hs]; simp)]
  have : lay (fun _ => none) s.head x.head (-1) = none := by
    unfold lay
    rw [if_neg (fun hh => h hh.1)]
  rw [this]
/-- The program's inner loop: over the list as it lies, but number i. -/
def scanI (x : Rule) (i : Nat) : List Rule → Nat → Sc
  | [], _ => .no
  | s :: l, k => if k = i then scanI x i l (k + 1)
    else if (plain s && plain x) = false then scanI x i l (k + 1)
    else if (laid x s).1 ≠ 0 then .err (laid x s).1
    else if (laid x s).2.isSome = true then .yes
    else scanI x i l (k + 1)
theorem scanI_past (x : Rule) (i : Nat) (l : List Rule) (k : Nat) (h : i < k) : scanI x i l k = scanW x l := by
  induction l generalizing k with
  | nil => rfl
  | cons s l ih => rw [scanI, scanW, if_neg (by omega), ih (k + 1) (by omega)]
theorem scanI_erase (x : Rule) (i : Nat) (l : List Rule) (k : Nat) (h : k ≤ i) : scanI x i l k = scanW x (l.eraseIdx (i - k)) := by
  induction l generalizing k with
  | nil => rfl
  | cons s l ih =>
    rw [scanI]
    by_cases hk : k = i
    · subst hk
      rw [if_pos rfl, Nat.sub_self, List.eraseIdx_cons_zero, scanI_past x k l (k + 1) (by omega)]
    · rw [if_neg hk, ih (k + 1) (by omega), show i - k = (i - (k + 1)) + 1 by omega, List.eraseIdx_cons_succ, scanW]
theorem scanI_skip {x s : Rule} {i k : Nat} {l : List Rule} (h : k = i ∨ s.head.pred ≠ x.head.pred ∨ plain s = false ∨ plain x = false) : scanI x i (s :: l) k = scanI x i l (k + 1) := by
  rw [scanI]
  by_cases hk : k = i
  · rw [if_pos hk]
  · rw [if_neg hk]
    by_cases hp : (plain s && plain x) = false
    · rw [if_pos hp]
    · rw [if_neg hp]
      have hp : (plain s && plain x) = true := by simpa using hp
      rw [Bool.and_eq_true] at hp
      have hpred : s.head.pred ≠ x.head.pred := by
        rcases h with h | h | h | h
        · exact absurd h hk
        · exact h
        · rw [hp.1] at h; cases h
        · rw [hp.2] at h; cases h
      rw [laid_pred hpred hp.2 hp.1, if_neg (by simp), if_neg (by simp)]
theorem scanI_go {x s : Rule} {i k : Nat} {l : List Rule} (hk : ¬ k = i) (hs : plain s = true) (hx : plain x = true) : scanI x i (s :: l) k = if (laid x s).1 ≠ 0 then .err (laid x s).1 else if (laid x s).2.isSome = true then .yes else scanI x i l (k + 1) := by
  rw [scanI, if_neg hk, if_neg (by rw [hs, hx]; simp)]
def stepP (i : Nat) (left : List Rule) : Sc → Int × Option (List Rule)
  | .err e => (e, none)
  | .yes => pruneGo i (left.eraseIdx i)
  | .no => pruneGo i left
theorem pruneGo_step {i : Nat} {left : List Rule} {x : Rule} (h : left[i]? = some x) : pruneGo (i + 1) left = stepP i left (scanW x (left.eraseIdx i)) := by
  rw [pruneGo, h]
  show (match scanW x (left.eraseIdx i) with
    | .err e => (e, none)
    | .yes => pruneGo i (left.eraseIdx i)
    | .no => pruneGo i left) = _
  cases scanW x (left.eraseIdx i) <;> rfl
end Go.Proofs.Ytcphjfggjjonpaa
