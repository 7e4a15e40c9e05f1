/- Plain laws for the matcher: the variables of a rule, of an atom; by variable the tries. -/
import Derived.Test.YtpgbenijjodoeaaGreatG36
import Derived.Test.YtpgbenijjodoeaaGreatG38
namespace Go.Proofs.YtpgbenijjodoeaaGreat
open K (Term Atom Rule TermsAt LitsAt RuleV termAt litAt)
theorem varStep_nodup {k : Int} {out : List ByteArray} {t : Term} (h : out.Nodup) : (varStep k out t).Nodup := by
  unfold varStep
  split
  · rename_i hc
    rw [List.nodup_append]
    refine ⟨h, by simp, fun a ha b hb e => ?_⟩
    simp at hb
    subst hb
    subst e
    exact hc.2.2 ha
  · exact h
theorem varFold_nodup {k : Int} (ts : List Term) : ∀ {out : List ByteArray}, out.Nodup → (ts.foldl (varStep k) out).Nodup := by
  induction ts with
  | nil => intro out h; exact h
  | cons t ts ih => intro out h; exact ih (varStep_nodup h)
theorem varsR_nodup (r : Rule) : (varsR r).Nodup := by
  unfold varsR
  suffices ∀ (ls : List K.Lit) (out : List ByteArray), out.Nodup → (ls.foldl varsL out).Nodup from this _ _ List.nodup_nil
  intro ls
  induction ls with
  | nil => intro out h; exact h
  | cons l ls ih => intro out h; exact ih _ (varFold_nodup _ h)
theorem varStep_mem (k : Int) (out : List ByteArray) (t : Term) (x : ByteArray) : x ∈ varStep k out t ↔ x ∈ out ∨ (k = 1 ∧ t.kind = 1 ∧ x = t.text) := by
  unfold varStep
  split
  · rename_i h
    rw [List.mem_append, List.mem_singleton]
    exact ⟨fun q => q.imp id (fun e => ⟨h.1, h.2.1, e⟩), fun q => q.imp id (fun e => e.2.2)⟩
  · rename_i h
    refine ⟨.inl, fun q => q.elim id (fun e => ?_)⟩
    by_cases hx : t.text ∈ out
    · rw [e.2.2]
      exact hx
    · exact absurd ⟨e.1, e.2.1, hx⟩ h
theorem varFold_mem (k : Int) (ts : List Term) (x : ByteArray) : ∀ out : List ByteArray, x ∈ ts.foldl (varStep k) out ↔ x ∈ out ∨ (k = 1 ∧ ∃ t ∈ ts, t.kind = 1 ∧ x = t.text) := by
  induction ts with
  | nil => intro out; simp
  | cons t ts ih =>
    intro out
    rw [List.foldl_cons, ih, varStep_mem]
    constructor
    · rintro ((h | ⟨h1, h2, h3⟩) | ⟨h1, t', ht', h2, h3⟩)
      · exact .inl h
      · exact .inr ⟨h1, t, by simp, h2, h3⟩
      · exact .inr ⟨h1, t', by simp [ht'], h2, h3⟩
    · rintro (h | ⟨h1, t', ht', h2, h3⟩)
      · exact .inl (.inl h)
      · rcases List.mem_cons.1 ht' with rfl | ht'
        · exact .inl (.inr ⟨h1, h2, h3⟩)
        · exact .inr ⟨h1, t', ht', h2, h3⟩
theorem varsR_mem (r : Rule) (x : ByteArray) : x ∈ varsR r ↔ ∃ l ∈ r.body, l.kind = 1 ∧ varT x ∈ l.atom.terms := by
  unfold varsR
  suffices ∀ (ls : List K.Lit) (out : List ByteArray), x ∈ ls.foldl varsL out ↔ x ∈ out ∨ ∃ l ∈ ls, l.kind = 1 ∧ varT x ∈ l.atom.terms by simpa using this r.body []
  intro ls
  induction ls with
  | nil => intro out; simp
  | cons l ls ih =>
    intro out
    rw [List.foldl_cons, ih]
    unfold varsL
    rw [varFold_mem]
    have hv : (∃ t ∈ l.atom.terms, t.kind = 1 ∧ x = t.text) ↔ varT x ∈ l.atom.terms := by
      constructor
      · rintro ⟨t, h1, h2, h3⟩
        have : varT x = t := by
          obtain ⟨k, s⟩ := t
          unfold varT
          simp only at h2 h3
          rw [h2, h3]
        rw [this]
        exact h1
      · exact fun h => ⟨_, h, rfl, rfl⟩
    rw [hv]
    constructor
    · rintro ((h | ⟨h1, h2⟩) | ⟨l', h1, h2⟩)
      · exact .inl h
      · exact .inr ⟨l, by simp, h1, h2⟩
      · exact .inr ⟨l', by simp [h1], h2⟩
    · rintro (h | ⟨l', h1, h2⟩)
      · exact .inl (.inl h)
      · rcases List.mem_cons.1 h1 with rfl | h1
        · exact .inl (.inr h2)
        · exact .inr ⟨l', h1, h2⟩
theorem gt_at {xs : List ByteArray} {i : Nat} (h : i < xs.length) : xs[i]? = some (gt xs i) := by
  unfold gt
  rw [List.getElem?_eq_getElem h]
  rfl
theorem tVars_mem {names : List ByteArray} {ts : List Term} {v : Nat} : v ∈ tVars names ts ↔ v < names.length ∧ varT (gt names v) ∈ ts := by
  unfold tVars tVarsN
  rw [List.mem_filter, List.mem_range, decide_eq_true_eq]
theorem tVars_up (names : List ByteArray) (ts : List Term) : (tVars names ts).Pairwise (· < ·) := by
  unfold tVars tVarsN
  exact List.Pairwise.filter _ List.pairwise_lt_range
theorem nodup_sub {α : Type} [DecidableEq α] : ∀ (l : List α), l.Nodup → ∀ {l' : List α}, (∀ x ∈ l, x ∈ l') → l.length ≤ l'.length
  | [], _, _, _ => Nat.zero_le _
  | x :: l, h, l', hs => by
    obtain ⟨h1, h2⟩ := List.nodup_cons.1 h
    have hx := hs x (by simp)
    have := nodup_sub l h2 (l' := l'.erase x) (fun y hy => by
      have hne : y ≠ x := fun e => h1 (e ▸ hy)
      exact (List.mem_erase_of_ne hne).2 (hs y (by simp [hy])))
    rw [List.length_erase_of_mem hx] at this
    have hp := List.length_pos_of_mem hx
    simp
    omega
theorem tVars_len {names : List ByteArray} (hn : names.Nodup) (ts : List Term) : (tVars names ts).length ≤ ts.length := by
  have h1 : ((tVars names ts).map fun v => varT (gt names v)).Nodup := by
    rw [List.Nodup, List.pairwise_map]
    refine (tVars_up names ts).imp_of_mem (fun {a b} ha hb hab e => ?_)
    have e2 : gt names a = gt names b := by
      unfold varT at e
      injection e
    have ha0 := (tVars_mem.1 ha).1
    have hb0 := (tVars_mem.1 hb).1
    have q := List.pairwise_iff_getElem.1 hn a b ha0 hb0 hab
    have ha1 := gt_at ha0
    have hb1 := gt_at hb0
    rw [List.getElem?_eq_getElem ha0] at ha1
    rw [List.getElem?_eq_getElem hb0] at hb1
    exact q ((Option.some.inj ha1).trans (e2.trans (Option.some.inj hb1).symm))
  have h2 := nodup_sub _ h1 (l' := ts) (fun x hx => by
    obtain ⟨v, hv, rfl⟩ := List.mem_map.1 hx
    exact (tVars_mem.1 hv).2)
  simpa using h2
theorem atv_snoc (ts : List JT) (t : JT) : atv (ts ++ [t]) = atN (atv ts) t.vars ts.length := by
  funext v
  unfold atN atv
  rw [List.length_append, List.length_singleton, List.range_succ, List.filter_append]
  have e : (List.range ts.length).filter (fun i => match (ts ++ [t])[i]? with | some t => decide (v ∈ t.vars) | none => false) = (List.range ts.length).filter (fun i => match ts[i]? with | some t => decide (v ∈ t.vars) | none => false) := by
    refine List.filter_congr fun i hi => ?_
    rw [List.getElem?_append_left (List.mem_range.1 hi)]
  refine (congrArg (· ++ _) (show _ = _ from e)).trans ?_
  by_cases h : v ∈ t.vars
  · rw [if_pos h]
    simp [h]
    rfl
  · rw [if_neg h]
    simp [h]
    rfl
end Go.Proofs.YtpgbenijjodoeaaGreat
