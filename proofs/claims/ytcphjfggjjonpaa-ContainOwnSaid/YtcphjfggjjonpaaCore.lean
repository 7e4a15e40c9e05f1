/- The plain law of least rules: what Minimal comes to, and that least rules of rules that are the same are as long. No conditions. -/
import Derived.Test.YtcphjfggjjonpaaHom
import Derived.Test.YtcphjfggjjonpaaSame
namespace Go.Proofs.Ytcphjfggjjonpaa
def less (r : Rule) (i : Nat) : Rule := ⟨r.head, r.body.take i ++ r.body.drop (i + 1)⟩
def minGo : Nat → Rule → Nat → Int × Option Rule
  | 0, out, _ => (0, some out)
  | f + 1, out, i =>
    if i < out.body.length then
      if plain (less out i) = false then minGo f out (i + 1)
      else if (laid (less out i) out).1 ≠ 0 then ((laid (less out i) out).1, none)
      else if (laid (less out i) out).2.isSome = true then minGo f (less out i) i
      else minGo f out (i + 1)
    else (0, some out)
def minimal (r : Rule) : Int × Option Rule :=
  if mayRule r ≠ 0 then (mayRule r, none)
  else if plain r = false then (240, none)
  else minGo (r.body.length + 1) r 0
theorem minGo_none (f : Nat) (out : Rule) (i : Nat) (h : (minGo f out i).2 = none) : (minGo f out i).1 ≠ 0 := by
  induction f generalizing out i with
  | zero => simp [minGo] at h
  | succ f ih =>
    rw [minGo] at h ⊢
    by_cases h1 : i < out.body.length
    · rw [if_pos h1] at h ⊢
      by_cases h2 : plain (less out i) = false
      · rw [if_pos h2] at h ⊢; exact ih _ _ h
      · rw [if_neg h2] at h ⊢
        by_cases h3 : (laid (less out i) out).1 ≠ 0
        · rw [if_pos h3]; exact h3
        · rw [if_neg h3] at h ⊢
          by_cases h4 : (laid (less out i) out).2.isSome = true
          · rw [if_pos h4] at h ⊢; exact ih _ _ h
          · rw [if_neg h4] at h ⊢; exact ih _ _ h
    · rw [if_neg h1] at h; cases h
theorem minGo_some (f : Nat) (out : Rule) (i : Nat) (m : Rule) (h : (minGo f out i).2 = some m) : (minGo f out i).1 = 0 := by
  induction f generalizing out i with
  | zero => simp [minGo]
  | succ f ih =>
    rw [minGo] at h ⊢
    by_cases h1 : i < out.body.length
    · rw [if_pos h1] at h ⊢
      by_cases h2 : plain (less out i) = false
      · rw [if_pos h2] at h ⊢; exact ih _ _ h
      · rw [if_neg h2] at h ⊢
        by_cases h3 : (laid (less out i) out).1 ≠ 0
        · rw [if_pos h3] at h; cases h
        · rw [if_neg h3] at h ⊢
          by_cases h4 : (laid (less out i) out).2.isSome = true
          · rw [if_pos h4] at h ⊢; exact ih _ _ h
          · rw [if_neg h4] at h ⊢; exact ih _ _ h
    · rw [if_neg h1]
theorem minimal_none {r : Rule} (h : (minimal r).2 = none) : (minimal r).1 ≠ 0 := by
  unfold minimal at h ⊢
  by_cases h1 : mayRule r ≠ 0
  · rw [if_pos h1]; exact h1
  · rw [if_neg h1] at h ⊢
    by_cases h2 : plain r = false
    · rw [if_pos h2]; simp
    · rw [if_neg h2] at h ⊢; exact minGo_none _ _ _ h
theorem minimal_some {r m : Rule} (h : (minimal r).2 = some m) : (minimal r).1 = 0 ∧ plain r = true ∧ (minGo (r.body.length + 1) r 0).2 = some m := by
  unfold minimal at h ⊢
  by_cases h1 : mayRule r ≠ 0
  · rw [if_pos h1] at h; cases h
  · rw [if_neg h1] at h ⊢
    by_cases h2 : plain r = false
    · rw [if_pos h2] at h; cases h
    · rw [if_neg h2] at h ⊢; exact ⟨minGo_some _ _ _ _ h, by simpa using h2, h⟩
theorem less_len {r : Rule} {i : Nat} (h : i < r.body.length) : (less r i).body.length + 1 = r.body.length := by
  simp [less]
  omega
theorem mem_less {r : Rule} {i : Nat} {l : Lit} : l ∈ (less r i).body ↔ ∃ k, k ≠ i ∧ r.body[k]? = some l := by
  have e : (less r i).body = r.body.eraseIdx i := (List.eraseIdx_eq_take_drop_succ r.body i).symm
  rw [e, List.mem_eraseIdx_iff_getElem?]
theorem less_sub {r : Rule} {i : Nat} {l : Lit} (h : l ∈ (less r i).body) : l ∈ r.body := by
  obtain ⟨k, _, hk⟩ := mem_less.1 h
  exact List.mem_of_getElem? hk
theorem less_at {r : Rule} {i k : Nat} (h : k < i) : (less r i).body[k]? = r.body[k]? := by
  have e : (less r i).body = r.body.eraseIdx i := (List.eraseIdx_eq_take_drop_succ r.body i).symm
  rw [e, List.getElem?_eraseIdx, if_pos h]
theorem mem_bodyVars {ls : List Lit} {v : ByteArray} : v ∈ bodyVars ls ↔ ∃ l ∈ ls, ∃ t ∈ l.atom.terms, t.kind = 1 ∧ t.text = v := by
  unfold bodyVars termVars
  simp only [List.mem_flatMap, List.mem_filterMap]
  constructor
  · rintro ⟨l, hl, t, ht, h⟩
    by_cases hk : t.kind = 1
    · rw [if_pos hk] at h
      exact ⟨l, hl, t, ht, hk, Option.some.inj h⟩
    · rw [if_neg hk] at h
      cases h
  · rintro ⟨l, hl, t, ht, hk, h⟩
    exact ⟨l, hl, t, ht, by rw [if_pos hk, h]⟩
theorem badT_mono {vs us : List ByteArray} {t : Term} (h : badT vs t = false) (hs : ∀ v ∈ vs, v ∈ us) : badT us t = false := by
  unfold badT at h ⊢
  simp only [Bool.and_eq_false_iff, decide_eq_false_iff_not, Bool.not_eq_false', Bool.and_eq_true, decide_eq_true_eq] at h ⊢
  rcases h with h | ⟨h1, h2⟩
  · exact .inl h
  · exact .inr ⟨h1, hs _ h2⟩
theorem mayLits_sub {b c : List Lit} (h : mayLits b = 0) (hs : ∀ l ∈ c, l ∈ b) : mayLits c = 0 := by
  have h' := mayLits_mem h
  induction c with
  | nil => rfl
  | cons x c ih =>
    rw [mayLits, if_neg (by rw [h' x (hs x (by simp))]; simp)]
    exact ih fun l hl => hs l (by simp [hl])
/-- A part of a plain rule's body under its head. -/
theorem plain_sub {r s : Rule} (h : plain r = true) (hh : s.head = r.head) (hb : ∀ l ∈ s.body, l ∈ r.body) (hl : s.body.length ≤ r.body.length) (ht : ∀ t ∈ s.head.terms, badT (bodyVars s.body) t = false) : plain s = true := by
  obtain ⟨h1, h2, _⟩ := plain_may h
  obtain ⟨g1, g2, g3⟩ := mayRule_lits h1
  have hm : mayRule s = 0 := by
    unfold mayRule
    rw [hh, if_neg (by simp [g1]), if_neg (by omega)]
    unfold mayRule at h1
    rw [if_neg (by simp [g1]), if_neg (by omega)] at h1
    exact mayLits_sub h1 hb
  unfold plain
  simp only [Bool.and_eq_true, decide_eq_true_eq, List.all_eq_true, Bool.not_eq_true', List.any_eq_false, Bool.not_eq_true]
  exact ⟨hm, fun l hl => h2 l (hb l hl), ht⟩
/-- No literal of the rule can be left out here. -/
def Stuck (r : Rule) (i : Nat) : Prop := ¬ (plain (less r i) = true ∧ Hom (less r i) r)
theorem Stuck.keep {out : Rule} {i j : Nat} (hp : plain out = true) (hp' : plain (less out i) = true) (hh : Hom (less out i) out) (hi : i < out.body.length) (hj : j < i) (h : Stuck out j) : Stuck (less out i) j := by
  rintro ⟨p1, h1⟩
  have hs : ∀ l ∈ (less (less out i) j).body, l ∈ (less out j).body := by
    intro l hl
    obtain ⟨k, hk, e⟩ := mem_less.1 hl
    by_cases hki : k < i
    · rw [less_at hki] at e
      exact mem_less.2 ⟨k, hk, e⟩
    · have e2 : (less out i).body = out.body.eraseIdx i := (List.eraseIdx_eq_take_drop_succ out.body i).symm
      rw [e2, List.getElem?_eraseIdx, if_neg hki] at e
      exact mem_less.2 ⟨k + 1, by omega, e⟩
  have w1 := less_len hi
  have w2 : (less out j).body.length + 1 = out.body.length := less_len (by omega)
  have hpj : plain (less out j) = true := by
    refine plain_sub hp rfl (fun l hl => less_sub hl) (by omega) fun t ht => ?_
    refine badT_mono ((plain_may p1).2.2 t ht) fun v hv => ?_
    obtain ⟨l, hl, t', ht', hk⟩ := mem_bodyVars.1 hv
    exact mem_bodyVars.2 ⟨l, hs l hl, t', ht', hk⟩
  exact h ⟨hpj, hom_trans hp' (hom_trans p1 (hom_sub rfl hs) h1) hh⟩
/-- What the loop of Minimal keeps. -/
structure Least (r m : Rule) : Prop where
  plain : plain m = true
  head : m.head = r.head
  sub : ∀ l ∈ m.body, l ∈ r.body
  hom : Hom m r
  len : m.body.length ≤ r.body.length
theorem Least.trans {r s m : Rule} (h : Least r s) (k : Least s m) : Least r m :=
  ⟨k.plain, k.head.trans h.head, fun l hl => h.sub l (k.sub l hl), hom_trans h.plain k.hom h.hom, Nat.le_trans k.len h.len⟩
theorem minGo_law (f : Nat) (out : Rule) (i : Nat) (m : Rule) (hf : out.body.length - i + 1 ≤ f) (hp : plain out = true) (hst : ∀ j, j < i → j < out.body.length → Stuck out j) (h : (minGo f out i).2 = some m) : Least out m ∧ ∀ j, j < m.body.length → Stuck m j := by
  induction f generalizing out i with
  | zero => omega
  | succ f ih =>
    rw [minGo] at h
    by_cases h1 : i < out.body.length
    · rw [if_pos h1] at h
      by_cases h2 : plain (less out i) = false
      · rw [if_pos h2] at h
        refine ih out (i + 1) (by omega) hp (fun j hj hl => ?_) h
        by_cases hji : j = i
        · subst hji
          rintro ⟨p1, _⟩
          rw [h2] at p1
          cases p1
        · exact hst j (by omega) hl
      · rw [if_neg h2] at h
        have h2' : plain (less out i) = true := by simpa using h2
        by_cases h3 : (laid (less out i) out).1 ≠ 0
        · rw [if_pos h3] at h; cases h
        · rw [if_neg h3] at h
          have h3' : (laid (less out i) out).1 = 0 := by simpa using h3
          by_cases h4 : (laid (less out i) out).2.isSome = true
          · rw [if_pos h4] at h
            have hh := (laid_iff h3').1 h4
            have wl := less_len h1
            obtain ⟨g1, g2⟩ := ih (less out i) i (by omega) h2' (fun j hj hl => (hst j hj (by omega)).keep hp h2' hh h1 hj) h
            exact ⟨Least.trans ⟨h2', rfl, fun l hl => less_sub hl, hh, by omega⟩ g1, g2⟩
          · rw [if_neg h4] at h
            refine ih out (i + 1) (by omega) hp (fun j hj hl => ?_) h
            by_cases hji : j = i
            · subst hji
              rintro ⟨_, p2⟩
              exact h4 ((laid_iff h3').2 p2)
            · exact hst j (by omega) hl
    · rw [if_neg h1] at h
      cases h
      exact ⟨⟨hp, rfl, fun _ h => h, hom_sub rfl fun _ h => h, Nat.le_refl _⟩, fun j hj => hst j (by omega) hj⟩
theorem minimal_law {r m : Rule} (h : (minimal r).2 = some m) : plain r = true ∧ Least r m ∧ ∀ j, j < m.body.length → Stuck m j := by
  obtain ⟨_, hp, h2⟩ := minimal_some h
  exact ⟨hp, minGo_law _ r 0 m (by omega) hp (fun j hj => by omega) h2⟩
theorem minGo_again (f : Nat) (m : Rule) (i : Nat) (hst : ∀ j, j < m.body.length → Stuck m j) (h : (minGo f m i).1 = 0) : (minGo f m i).2 = some m := by
  induction f generalizing i with
  | zero => simp [minGo]
  | succ f ih =>
    rw [minGo] at h ⊢
    by_cases h1 : i < m.body.length
    · rw [if_pos h1] at h ⊢
      by_cases h2 : plain (less m i) = false
      · rw [if_pos h2] at h ⊢; exact ih _ h
      · rw [if_neg h2] at h ⊢
        by_cases h3 : (laid (less m i) m).1 ≠ 0
        · rw [if_pos h3] at h; exact absurd h h3
        · rw [if_neg h3] at h ⊢
          have h3' : (laid (less m i) m).1 = 0 := by simpa using h3
          by_cases h4 : (laid (less m i) m).2.isSome = true
          · exact absurd ⟨by simpa using h2, (laid_iff h3').1 h4⟩ (hst i h1)
          · rw [if_neg h4] at h ⊢; exact ih _ h
    · rw [if_neg h1]
theorem core_b {r m : Rule} (h : (minimal r).2 = some m) (h0 : (minimal m).1 = 0) : (minimal m).2 = some m := by
  obtain ⟨_, hl, hs⟩ := minimal_law h
  have hm : mayRule m = 0 := (plain_may hl.plain).1
  unfold minimal at h0 ⊢
  rw [if_neg (by simp [hm]), if_neg (by simp [hl.plain])] at h0 ⊢
  exact minGo_again _ _ _ hs h0
theorem core_a {r m : Rule} (h : (minimal r).2 = some m) : ((sameC r m).2 = 0 ∧ (sameC r m).1 = true) ∨ (sameC r m).2 = 241 := by
  obtain ⟨hp, hl, _⟩ := minimal_law h
  unfold sameC
  cases h1 : (laid r m).2.isSome with
  | false =>
    simp only [if_true]
    exact .inr (laid_hom hp hl.plain (hom_sub hl.head hl.sub) h1)
  | true =>
    simp only [Bool.true_eq_false, if_false]
    cases h2 : (laid m r).2.isSome with
    | false => exact .inr (laid_hom hl.plain hp hl.hom h2)
    | true =>
      obtain ⟨l, e⟩ := Option.isSome_iff_exists.1 h2
      exact .inl ⟨laid_zero e, rfl⟩
/-- A laying with its maps. -/
def HomW (r s : Rule) (M : TMap) (h : Nat → Nat) : Prop := FitA M s.head r.head (-1) ∧ ∀ (i : Nat) (l : Lit), s.body[i]? = some l → ∃ l' : Lit, r.body[h i]? = some l' ∧ FitA M l.atom l'.atom (h i : Nat)
theorem hom_transW {r s t : Rule} (hp : plain s = true) {M1 M2 : TMap} {g1 g2 : Nat → Nat} (h1 : HomW r s M1 g1) (h2 : HomW s t M2 g2) : HomW r t (compT r.body M1 g1 M2) (fun i => g1 (g2 i)) := by
  obtain ⟨a1, b1⟩ := h1
  obtain ⟨a2, b2⟩ := h2
  refine ⟨⟨⟨a2.1.1.trans a1.1.1, a2.1.2.trans a1.1.2⟩, fun i τ q hτ hq => ?_⟩, fun i l hl => ?_⟩
  · have hi := (List.getElem?_eq_some_iff.1 hq).1
    obtain ⟨o, ho⟩ : ∃ o, s.head.terms[i]? = some o := ⟨_, List.getElem?_eq_getElem (by rw [a1.1.2]; exact hi)⟩
    refine fitT_comp (a2.2 i τ o hτ ho) (a1.2 i o q ho hq) ?_
    rcases plain_head hp o (List.mem_of_getElem? ho) with h | h
    · exact .inl h
    · exact .inr (.inl h)
  · obtain ⟨l2, e2, f2⟩ := b2 i l hl
    obtain ⟨l1, e1, f1⟩ := b1 _ l2 e2
    refine ⟨l1, e1, ⟨f2.1.1.trans f1.1.1, f2.1.2.trans f1.1.2⟩, fun j τ q hτ hq => ?_⟩
    have hj := (List.getElem?_eq_some_iff.1 hq).1
    obtain ⟨o, ho⟩ : ∃ o, l2.atom.terms[j]? = some o := ⟨_, List.getElem?_eq_getElem (by rw [f1.1.2]; exact hj)⟩
    refine fitT_comp (f2.2 j τ o hτ ho) (f1.2 j o q ho hq) ?_
    rcases plain_body hp l2 (List.mem_of_getElem? e2) o (List.mem_of_getElem? ho) with h | h | h
    · exact .inl h
    · exact .inr (.inr ⟨h, g2 i, rfl, rfl, l1, e1, by rw [Nat.zero_add]; exact hq⟩)
    · exact .inr (.inl h)
/-- The literals that a laying meets, under other numbers. -/
theorem hom_renum {r r' s : Rule} {M : TMap} {h : Nat → Nat} (hw : HomW r s M h) (hh : r'.head = r.head) (hm : ∀ (i : Nat) (l l' : Lit), s.body[i]? = some l → r.body[h i]? = some l' → l' ∈ r'.body) : Hom r' s := by
  have hc : ∀ k : Nat, ∃ k' : Nat, ∀ l : Lit, r.body[k]? = some l → l ∈ r'.body → r'.body[k']? = some l := by
    intro k
    cases hk : r.body[k]? with
    | none => exact ⟨0, fun l h => by cases h⟩
    | some l =>
      by_cases hl : l ∈ r'.body
      · obtain ⟨k', hk'⟩ := List.mem_iff_getElem?.1 hl
        exact ⟨k', fun l' h _ => by cases h; exact hk'⟩
      · exact ⟨0, fun l' h h' => by cases h; exact absurd h' hl⟩
  let σ : Nat → Nat := fun k => (hc k).choose
  have hσ : ∀ (k : Nat) (l : Lit), r.body[k]? = some l → l ∈ r'.body → r'.body[σ k]? = some l := fun k => (hc k).choose_spec
  let ren : Thing → Thing := fun y => if y.t.kind = 2 ∧ 0 ≤ y.literal then ⟨y.t, (σ y.literal.toNat : Nat), y.place⟩ else y
  have hT : ∀ (o : Term) (k i : Nat), ren (thingOf o (k : Int) i) = thingOf o (σ k : Nat) i := by
    intro o k i
    show (if (thingOf o (k : Int) i).t.kind = 2 ∧ 0 ≤ (thingOf o (k : Int) i).literal then _ else _) = _
    by_cases hk : o.kind = 2
    · have e1 : (thingOf o (k : Int) i).literal = (k : Int) := by simp [thingOf, hk]
      rw [if_pos ⟨hk, by rw [e1]; omega⟩, e1]
      simp [thingOf, hk]
    · rw [if_neg (fun h => hk h.1)]
      simp [thingOf, hk]
  have hN : ∀ (o : Term) (i : Nat), ren (thingOf o (-1) i) = thingOf o (-1) i := by
    intro o i
    show (if (thingOf o (-1) i).t.kind = 2 ∧ 0 ≤ (thingOf o (-1) i).literal then _ else _) = _
    refine if_neg fun h => ?_
    have hk : o.kind = 2 := h.1
    have e1 : (thingOf o (-1) i).literal = -1 := by simp [thingOf, hk]
    rw [e1] at h
    omega
  refine ⟨fun v => (M v).map ren, fun i => σ (h i), ⟨by rw [hh]; exact hw.1.1, fun i t o ht ho => ?_⟩, fun i l hl => ?_⟩
  · rw [hh] at ho
    obtain ⟨f1, f2⟩ := hw.1.2 i t o ht ho
    refine ⟨f1, fun hk => ?_⟩
    show (M t.text).map ren = _
    rw [f2 hk, Option.map_some, hN]
  · obtain ⟨l', e1, e2⟩ := hw.2 i l hl
    refine ⟨l', hσ _ _ e1 (hm i l l' hl e1), e2.1, fun j t o ht ho => ?_⟩
    obtain ⟨f1, f2⟩ := e2.2 j t o ht ho
    refine ⟨f1, fun hk => ?_⟩
    show (M t.text).map ren = _
    rw [f2 hk, Option.map_some, hT]
/-- Of so many numbers each is a value: there are as many places. -/
theorem onto_le (b : Nat) : ∀ (a : Nat) (f : Nat → Nat), (∀ j, j < a → ∃ i, i < b ∧ f i = j) → a ≤ b := by
  induction b with
  | zero =>
    intro a f h
    apply Nat.le_of_not_lt
    intro h0
    obtain ⟨i, hi, _⟩ := h 0 h0
    omega
  | succ b ih =>
    intro a f h
    cases a with
    | zero => omega
    | succ a =>
      have := ih a (fun i => if f i = a then f b else f i) (fun j hj => by
        obtain ⟨i, hi, e⟩ := h j (by omega)
        by_cases hib : i = b
        · subst hib
          obtain ⟨i', hi', e'⟩ := h a (by omega)
          have : i' ≠ i := fun e2 => by subst e2; omega
          exact ⟨i', by omega, by simp only [e', if_true]; exact e⟩
        · exact ⟨i, by omega, by rw [if_neg (by omega)]; exact e⟩)
      omega
theorem core_le {m n : Rule} (pm : plain m = true) (pn : plain n = true) (h1 : Hom n m) (h2 : Hom m n) (hs : ∀ j, j < m.body.length → Stuck m j) : m.body.length ≤ n.body.length := by
  obtain ⟨M1, g1, w1⟩ := h1
  obtain ⟨M2, g2, w2⟩ := h2
  have w1' : HomW n m M1 g1 := w1
  have w2' : HomW m n M2 g2 := w2
  have hw := hom_transW pn w2' w1'
  refine onto_le _ _ g2 fun j hj => ?_
  by_cases hex : ∃ i, i < m.body.length ∧ g2 (g1 i) = j
  · obtain ⟨i, hi, e⟩ := hex
    obtain ⟨l', e1, _⟩ := w1'.2 i _ (List.getElem?_eq_getElem hi)
    exact ⟨g1 i, (List.getElem?_eq_some_iff.1 e1).1, e⟩
  · exfalso
    have hin : ∀ (i : Nat) (l l' : Lit), m.body[i]? = some l → m.body[g2 (g1 i)]? = some l' → l' ∈ (less m j).body := by
      intro i l l' hl hl'
      refine mem_less.2 ⟨g2 (g1 i), fun e => hex ⟨i, (List.getElem?_eq_some_iff.1 hl).1, e⟩, hl'⟩
    have wl := less_len hj
    refine hs j hj ⟨plain_sub pm rfl (fun l hl => less_sub hl) (by omega) fun t ht => ?_, hom_renum hw rfl hin⟩
    have hb := (plain_may pm).2.2 t ht
    rcases plain_head pm t ht with hk | hk
    · have hv : t.text ∈ bodyVars m.body := by
        unfold badT at hb
        simpa [hk] using hb
      obtain ⟨l, hl, t', ht', hk', htx⟩ := mem_bodyVars.1 hv
      obtain ⟨i, hi⟩ := List.mem_iff_getElem?.1 hl
      obtain ⟨p, hp⟩ := List.mem_iff_getElem?.1 ht'
      obtain ⟨l', e1, e2⟩ := hw.2 i l hi
      have hpl : p < l'.atom.terms.length := by rw [← e2.1.2]; exact (List.getElem?_eq_some_iff.1 hp).1
      have f := (e2.2 p t' _ hp (List.getElem?_eq_getElem hpl)).2 hk'
      obtain ⟨q, hq⟩ := List.mem_iff_getElem?.1 (show t ∈ (less m j).head.terms from ht)
      have g := (hw.1.2 q t t hq hq).2 hk
      rw [htx, g] at f
      have ho : l'.atom.terms[p] = t := by
        have := Option.some.inj f
        unfold thingOf at this
        exact (congrArg Thing.t this).symm
      have hv2 : t.text ∈ bodyVars (less m j).body := mem_bodyVars.2 ⟨l', hin i l l' hi e1, t, by rw [← ho]; exact List.getElem_mem _, hk, rfl⟩
      unfold badT
      simp [hv2, hk]
    · unfold badT
      simp [hk]
theorem sameC_true {r s : Rule} (h1 : (sameC r s).1 = true) : Hom r s ∧ Hom s r ∧ plain r = true ∧ plain s = true := by
  unfold sameC at h1
  by_cases h : (laid r s).2.isSome = false
  · rw [if_pos h] at h1
    cases h1
  · rw [if_neg h] at h1
    obtain ⟨l, e⟩ := Option.isSome_iff_exists.1 (show (laid r s).2.isSome = true by revert h; cases (laid r s).2.isSome <;> simp)
    obtain ⟨l', e'⟩ := Option.isSome_iff_exists.1 h1
    obtain ⟨p1, p2, p3⟩ := laid_yes e
    exact ⟨p3, (laid_yes e').2.2, p1, p2⟩
theorem core_c {r s m o : Rule} (hm : (minimal r).2 = some m) (ho : (minimal s).2 = some o) (h1 : (sameC r s).1 = true) : o.body.length = m.body.length := by
  obtain ⟨g1, g2, pr, ps⟩ := sameC_true h1
  obtain ⟨_, lm, sm⟩ := minimal_law hm
  obtain ⟨_, lo, so⟩ := minimal_law ho
  have mr := hom_sub lm.head lm.sub
  have os := hom_sub lo.head lo.sub
  have hmo : Hom m o := hom_trans ps (hom_trans pr lm.hom g1) os
  have hom' : Hom o m := hom_trans pr (hom_trans ps lo.hom g2) mr
  exact Nat.le_antisymm (core_le lo.plain lm.plain hmo hom' so) (core_le lm.plain lo.plain hom' hmo sm)
end Go.Proofs.Ytcphjfggjjonpaa
