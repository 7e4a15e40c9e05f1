/- Does an atom fit onto another one: the map of variables, grown by it. No conditions. The plain law: a laying that the search finds is one, by one map of variables. The plain law of layings: the search finds one just if a map of variables and literals is one. No conditions. -/
import Derived.Test.YtpgbenijjodoeaaGreatG11
namespace Go.Proofs.YtpgbenijjodoeaaGreat.K
def fitsGo (lit : Int) : List Term → List Term → Nat → TMap → Option TMap
  | t :: ts, o :: os, i, m =>
    if t.kind = 3 ∧ t ≠ o then none
    else if t.kind = 1 then
      match m t.text with
      | none => fitsGo lit ts os (i + 1) (updT m t.text (thingOf o lit i))
      | some y => if y = thingOf o lit i then fitsGo lit ts os (i + 1) (updT m t.text (thingOf o lit i)) else none
    else fitsGo lit ts os (i + 1) m
  | _, _, _, m => some m
def fits (m : TMap) (a onto : Atom) (lit : Int) : Option TMap :=
  if a.pred = onto.pred ∧ a.terms.length = onto.terms.length then fitsGo lit a.terms onto.terms 0 m else none
end Go.Proofs.YtpgbenijjodoeaaGreat.K
namespace Go.Proofs.YtpgbenijjodoeaaGreat.K
theorem layGo_undo (lit : Int) (ts os : List Term) (i : Nat) (m0 m : TMap) (fr : List ByteArray) (m' : TMap) (fr' : List ByteArray) (h0 : ∀ x ∈ fr, m0 x = none) (h1 : ∀ x, x ∉ fr → m x = m0 x)
    (h : layGo lit ts os i m fr = some (m', fr')) : (∀ x ∈ fr', m0 x = none) ∧ ∀ x, x ∉ fr' → m' x = m0 x := by
  induction ts generalizing os i m fr with
  | nil => simp [layGo] at h; obtain ⟨rfl, rfl⟩ := h; exact ⟨h0, h1⟩
  | cons t ts ih =>
    cases os with
    | nil => simp [layGo] at h; obtain ⟨rfl, rfl⟩ := h; exact ⟨h0, h1⟩
    | cons o os =>
      rw [layGo] at h
      by_cases h3 : t.kind = 3
      · rw [if_pos h3] at h
        by_cases ho : o = t
        · rw [if_pos ho] at h
          exact ih os (i + 1) m fr h0 h1 h
        · rw [if_neg ho] at h
          cases h
      · rw [if_neg h3] at h
        by_cases hk : t.kind = 1
        · rw [if_pos hk] at h
          cases hm : m t.text with
          | none =>
            rw [hm] at h
            refine ih os (i + 1) _ _ ?_ ?_ h
            · intro x hx
              rcases List.mem_append.1 hx with hx | hx
              · exact h0 x hx
              · cases List.mem_singleton.1 hx
                by_cases hf : t.text ∈ fr
                · exact h0 _ hf
                · rw [← h1 _ hf]; exact hm
            · intro x hx
              simp at hx
              simp only [updT, if_neg hx.2]
              exact h1 x hx.1
          | some y =>
            rw [hm] at h
            by_cases hy : y = thingOf o lit i
            · simp only [if_pos hy] at h
              exact ih os (i + 1) m fr h0 h1 h
            · simp only [if_neg hy] at h
              cases h
        · rw [if_neg hk] at h
          exact ih os (i + 1) m fr h0 h1 h
theorem lay_undo {m m' : TMap} {a o : Atom} {lit : Int} {fr : List ByteArray} (h : lay m a o lit = some (m', fr)) : withoutT m' fr = m := by
  unfold lay at h
  by_cases hc : a.pred = o.pred ∧ a.terms.length = o.terms.length
  · rw [if_pos hc] at h
    obtain ⟨g0, g1⟩ := layGo_undo lit _ _ 0 m m [] m' fr (by simp) (fun _ _ => rfl) h
    funext x
    by_cases hx : x ∈ fr
    · simp [withoutT, hx, g0 x hx]
    · simp [withoutT, hx, g1 x hx]
  · rw [if_neg hc] at h
    cases h
/-- The search's state: each atom of the first is laid onto its literal, the map grown by it. -/
inductive Path (rb sb : List Lit) (m0 : TMap) : List Nat → List (List ByteArray) → TMap → Prop
  | nil : Path rb sb m0 [] [] m0
  | snoc {at_ : List Nat} {frs : List (List ByteArray)} {m m' : TMap} {k : Nat} {fr : List ByteArray} {l l' : Lit} : Path rb sb m0 at_ frs m → sb[at_.length]? = some l → rb[k]? = some l' → lay m l.atom l'.atom k = some (m', fr) → Path rb sb m0 (at_ ++ [k]) (frs ++ [fr]) m'
theorem scan_found (m : TMap) (a : Atom) (rb ls : List Lit) (j looks k lk : Nat) (m' : TMap) (fr : List ByteArray) (hd : ls = rb.drop j) (h : scan m a ls j looks = .found k m' fr lk) : ∃ l', rb[k]? = some l' ∧ lay m a l'.atom k = some (m', fr) := by
  induction ls generalizing j looks with
  | nil => simp [scan] at h
  | cons l rest ih =>
    rw [scan] at h
    split at h
    · cases h
    · have hj : rb[j]? = some l := by
        have e : (rb.drop j)[0]? = some l := by rw [← hd]; rfl
        rw [List.getElem?_drop] at e
        simpa using e
      have hr : rest = rb.drop (j + 1) := by
        rw [← List.tail_drop, ← hd]; rfl
      split at h
      · cases h
        exact ⟨l, hj, by assumption⟩
      · exact ih (j + 1) (looks + 1) hr h
theorem srch_yes (rb sb : List Lit) (m0 : TMap) (f : Nat) (st : SSt) (l : List Nat) (hp : Path rb sb m0 st.at_ st.frs st.m) (h : srch rb sb f st = .yes l) : ∃ frs m, Path rb sb m0 l frs m ∧ sb[l.length]? = none := by
  induction f generalizing st with
  | zero => simp [srch] at h
  | succ f ih =>
    rw [srch] at h
    cases ha : sb[st.at_.length]? with
    | none =>
      rw [ha] at h
      cases h
      exact ⟨_, _, hp, ha⟩
    | some x =>
      rw [ha] at h
      simp only at h
      cases hs : scan st.m x.atom (rb.drop st.from_) st.from_ st.looks with
      | many => rw [hs] at h; cases h
      | found k m' fr lk =>
        rw [hs] at h
        obtain ⟨l', h1, h2⟩ := scan_found _ _ rb _ _ _ _ _ _ _ rfl hs
        exact ih _ (hp.snoc ha h1 h2) h
      | none lk =>
        rw [hs] at h
        simp only at h
        obtain ⟨m, at_, frs, lks, fm⟩ := st
        cases hp with
        | nil => simp at h
        | snoc hp' h1 h2 h3 =>
          rename_i at2 frs2 m2 k2 fr2 l2 l3
          have h' : (match (at2 ++ [k2]).getLast? with
            | Option.none => SRes.no
            | some k => srch rb sb f ⟨withoutT m ((frs2 ++ [fr2]).getLast?.getD []), (at2 ++ [k2]).dropLast, (frs2 ++ [fr2]).dropLast, lk, k + 1⟩) = .yes l := h
          have h3' : lay m2 l2.atom l3.atom k2 = some (m, fr2) := h3
          rw [List.getLast?_concat, List.getLast?_concat, List.dropLast_concat, List.dropLast_concat] at h'
          simp only [Option.getD_some] at h'
          rw [lay_undo h3'] at h'
          exact ih _ hp' h'
/-- From a map on, atom after atom fits onto its literal, and the last map is me. -/
def GoodTo (rb sb : List Lit) : TMap → Nat → List Nat → TMap → Prop
  | m, _, [], me => m = me
  | m, i, k :: ks, me => ∃ l l' m', sb[i]? = some l ∧ rb[k]? = some l' ∧ fits m l.atom l'.atom k = some m' ∧ GoodTo rb sb m' (i + 1) ks me
theorem GoodTo.snoc {rb sb : List Lit} {m m1 m2 : TMap} {i k : Nat} {ks : List Nat} {l l' : Lit} (h : GoodTo rb sb m i ks m1) (h1 : sb[i + ks.length]? = some l) (h2 : rb[k]? = some l') (h3 : fits m1 l.atom l'.atom k = some m2) : GoodTo rb sb m i (ks ++ [k]) m2 := by
  induction ks generalizing m i with
  | nil =>
    cases (show m = m1 from h)
    exact ⟨l, l', m2, by simpa using h1, h2, h3, rfl⟩
  | cons k' ks ih =>
    obtain ⟨x, x', m', g1, g2, g3, g4⟩ := h
    exact ⟨x, x', m', g1, g2, g3, ih g4 (by rw [← h1]; congr 1; simp; omega)⟩
theorem Path.len {rb sb : List Lit} {m0 m : TMap} {l : List Nat} {frs : List (List ByteArray)} (h : Path rb sb m0 l frs m) : l.length ≤ sb.length := by
  cases h with
  | nil => exact Nat.zero_le _
  | snoc _ h1 h2 h3 =>
    have := (List.getElem?_eq_some_iff.1 h1).1
    simp
    omega
end Go.Proofs.YtpgbenijjodoeaaGreat.K
namespace Go.Proofs.YtpgbenijjodoeaaGreat.K
def FitT (M : TMap) (lit : Int) (i : Nat) (t o : Term) : Prop := (t.kind = 3 → o = t) ∧ (t.kind = 1 → M t.text = some (thingOf o lit i))
def FitL (M : TMap) (lit : Int) (ts os : List Term) (j : Nat) : Prop := ∀ i t o, ts[i]? = some t → os[i]? = some o → FitT M lit (j + i) t o
def FitA (M : TMap) (a o : Atom) (lit : Int) : Prop := (a.pred = o.pred ∧ a.terms.length = o.terms.length) ∧ FitL M lit a.terms o.terms 0
def SubT (m M : TMap) : Prop := ∀ x y, m x = some y → M x = some y
theorem FitL.nil1 {M : TMap} {lit : Int} {os : List Term} {j : Nat} : FitL M lit [] os j := fun i t o h => by simp at h
theorem FitL.nil2 {M : TMap} {lit : Int} {ts : List Term} {j : Nat} : FitL M lit ts [] j := fun i t o _ h => by simp at h
theorem FitL.cons {M : TMap} {lit : Int} {t o : Term} {ts os : List Term} {j : Nat} (h1 : FitT M lit j t o) (h2 : FitL M lit ts os (j + 1)) : FitL M lit (t :: ts) (o :: os) j := by
  intro i t' o' ht ho
  cases i with
  | zero => simp at ht ho; subst ht ho; exact h1
  | succ i =>
    have := h2 i t' o' (by simpa using ht) (by simpa using ho)
    rwa [Nat.add_assoc, Nat.add_comm 1 i] at this
theorem FitL.head {M : TMap} {lit : Int} {t o : Term} {ts os : List Term} {j : Nat} (h : FitL M lit (t :: ts) (o :: os) j) : FitT M lit j t o := h 0 t o rfl rfl
theorem FitL.tail {M : TMap} {lit : Int} {t o : Term} {ts os : List Term} {j : Nat} (h : FitL M lit (t :: ts) (o :: os) j) : FitL M lit ts os (j + 1) := by
  intro i t' o' ht ho
  have := h (i + 1) t' o' (by simpa using ht) (by simpa using ho)
  rwa [Nat.add_assoc, Nat.add_comm 1 i]
theorem FitA.mono {m M : TMap} {a o : Atom} {lit : Int} (hs : SubT m M) (h : FitA m a o lit) : FitA M a o lit :=
  ⟨h.1, fun i t o ht ho => ⟨(h.2 i t o ht ho).1, fun h1 => hs _ _ ((h.2 i t o ht ho).2 h1)⟩⟩
theorem SubT.trans {a b c : TMap} (h1 : SubT a b) (h2 : SubT b c) : SubT a c := fun _ _ h => h2 _ _ (h1 _ _ h)
theorem layGo_sound (lit : Int) (ts os : List Term) (i : Nat) (m : TMap) (fr : List ByteArray) (m' : TMap) (fr' : List ByteArray) (h : layGo lit ts os i m fr = some (m', fr')) : SubT m m' ∧ FitL m' lit ts os i := by
  induction ts generalizing os i m fr with
  | nil => simp [layGo] at h; rw [← h.1]; exact ⟨fun _ _ h => h, .nil1⟩
  | cons t ts ih =>
    cases os with
    | nil => simp [layGo] at h; rw [← h.1]; exact ⟨fun _ _ h => h, .nil2⟩
    | cons o os =>
      rw [layGo] at h
      by_cases h3 : t.kind = 3
      · rw [if_pos h3] at h
        by_cases ho : o = t
        · rw [if_pos ho] at h
          obtain ⟨g1, g2⟩ := ih os (i + 1) m fr h
          exact ⟨g1, .cons ⟨fun _ => ho, fun h1 => by omega⟩ g2⟩
        · rw [if_neg ho] at h
          cases h
      · rw [if_neg h3] at h
        by_cases h1 : t.kind = 1
        · rw [if_pos h1] at h
          cases hm : m t.text with
          | none =>
            rw [hm] at h
            obtain ⟨g1, g2⟩ := ih os (i + 1) _ _ h
            refine ⟨fun x y hx => g1 _ _ ?_, .cons ⟨fun h => absurd h h3, fun _ => g1 _ _ (by simp [updT])⟩ g2⟩
            by_cases hk : x = t.text
            · rw [hk, hm] at hx; cases hx
            · simpa [updT, hk] using hx
          | some y =>
            rw [hm] at h
            by_cases hy : y = thingOf o lit i
            · simp only [if_pos hy] at h
              obtain ⟨g1, g2⟩ := ih os (i + 1) m fr h
              exact ⟨g1, .cons ⟨fun h => absurd h h3, fun _ => g1 _ _ (by rw [hm, hy])⟩ g2⟩
            · simp only [if_neg hy] at h
              cases h
        · rw [if_neg h1] at h
          obtain ⟨g1, g2⟩ := ih os (i + 1) m fr h
          exact ⟨g1, .cons ⟨fun h => absurd h h3, fun h => absurd h h1⟩ g2⟩
theorem layGo_comp {M : TMap} (lit : Int) (ts os : List Term) (i : Nat) (m : TMap) (fr : List ByteArray) (hs : SubT m M) (h : FitL M lit ts os i) : ∃ m' fr', layGo lit ts os i m fr = some (m', fr') ∧ SubT m' M := by
  induction ts generalizing os i m fr with
  | nil => exact ⟨m, fr, by simp [layGo], hs⟩
  | cons t ts ih =>
    cases os with
    | nil => exact ⟨m, fr, by simp [layGo], hs⟩
    | cons o os =>
      rw [layGo]
      by_cases h3 : t.kind = 3
      · rw [if_pos h3, if_pos (h.head.1 h3)]
        exact ih os (i + 1) m fr hs h.tail
      · rw [if_neg h3]
        by_cases h1 : t.kind = 1
        · rw [if_pos h1]
          have hM := h.head.2 h1
          cases hm : m t.text with
          | none =>
            refine ih os (i + 1) _ _ (fun x y hx => ?_) h.tail
            by_cases hk : x = t.text
            · rw [hk] at hx ⊢
              simp [updT] at hx
              rw [hM, hx]
            · simp [updT, hk] at hx
              exact hs _ _ hx
          | some y =>
            have := hs _ _ hm
            rw [hM] at this
            cases this
            simp only [if_true]
            exact ih os (i + 1) m fr hs h.tail
        · rw [if_neg h1]
          exact ih os (i + 1) m fr hs h.tail
theorem lay_sound {m m' : TMap} {a o : Atom} {lit : Int} {fr : List ByteArray} (h : lay m a o lit = some (m', fr)) : SubT m m' ∧ FitA m' a o lit := by
  unfold lay at h
  by_cases hc : a.pred = o.pred ∧ a.terms.length = o.terms.length
  · rw [if_pos hc] at h
    obtain ⟨g1, g2⟩ := layGo_sound _ _ _ _ _ _ _ _ h
    exact ⟨g1, hc, g2⟩
  · rw [if_neg hc] at h
    cases h
theorem lay_comp {m M : TMap} {a o : Atom} {lit : Int} (hs : SubT m M) (h : FitA M a o lit) : ∃ m' fr, lay m a o lit = some (m', fr) ∧ SubT m' M := by
  unfold lay
  rw [if_pos h.1]
  exact layGo_comp _ _ _ _ _ _ hs h.2
/-- A laying: s onto r. -/
def Hom (r s : Rule) : Prop := ∃ (M : TMap) (h : Nat → Nat), FitA M s.head r.head (-1) ∧ ∀ (i : Nat) (l : Lit), s.body[i]? = some l → ∃ l' : Lit, r.body[h i]? = some l' ∧ FitA M l.atom l'.atom (h i : Nat)
theorem Path.sound {rb sb : List Lit} {m0 m : TMap} {at_ : List Nat} {frs : List (List ByteArray)} (h : Path rb sb m0 at_ frs m) : SubT m0 m ∧ ∀ (i k : Nat), at_[i]? = some k → ∃ l l' : Lit, sb[i]? = some l ∧ rb[k]? = some l' ∧ FitA m l.atom l'.atom (k : Nat) := by
  induction h with
  | nil => exact ⟨fun _ _ h => h, fun i k h => by simp at h⟩
  | @snoc at_ frs m m' k fr l l' _ h1 h2 h3 ih =>
    obtain ⟨g1, g2⟩ := lay_sound h3
    refine ⟨ih.1.trans g1, fun i k' hi => ?_⟩
    by_cases hlt : i < at_.length
    · rw [List.getElem?_append_left hlt] at hi
      obtain ⟨x, x', e1, e2, e3⟩ := ih.2 i k' hi
      exact ⟨x, x', e1, e2, e3.mono g1⟩
    · have hle : i = at_.length := by
        have := (List.getElem?_eq_some_iff.1 hi).1
        simp at this
        omega
      subst hle
      simp at hi
      subst hi
      exact ⟨l, l', h1, h2, g2⟩
theorem laid_yes {r s : Rule} {l : List Nat} (h : (laid r s).2 = some l) : plain r = true ∧ plain s = true ∧ Hom r s := by
  unfold laid at h
  split at h
  · cases h
  · split at h
    · cases h
    · split at h
      · cases h
      · rename_i hpl
        split at h
        · cases h
        · rename_i m fr hl
          split at h
          · cases h
          · cases h
          · rename_i l2 hs
            cases h
            obtain ⟨frs, me, hp, hn⟩ := srch_yes r.body s.body m _ ⟨m, [], [], 0, 0⟩ l .nil hs
            obtain ⟨g1, g2⟩ := hp.sound
            obtain ⟨_, k2⟩ := lay_sound hl
            have h2 := List.getElem?_eq_none_iff.1 hn
            simp at hpl
            refine ⟨hpl.1, hpl.2, me, fun i => l[i]?.getD 0, k2.mono g1, fun i x hx => ?_⟩
            have hi := (List.getElem?_eq_some_iff.1 hx).1
            obtain ⟨k, hk⟩ : ∃ k, l[i]? = some k := ⟨_, List.getElem?_eq_getElem (by omega)⟩
            obtain ⟨x1, x2, e1, e2, e3⟩ := g2 i k hk
            rw [hx] at e1
            cases e1
            simp only [hk, Option.getD_some]
            exact ⟨x2, e2, e3⟩
theorem scan_least (m : TMap) (a : Atom) (rb ls : List Lit) (j looks k lk : Nat) (m' : TMap) (fr : List ByteArray) (hd : ls = rb.drop j) (h : scan m a ls j looks = .found k m' fr lk) : ∀ i l', j ≤ i → i < k → rb[i]? = some l' → lay m a l'.atom i = none := by
  induction ls generalizing j looks with
  | nil => simp [scan] at h
  | cons l rest ih =>
    rw [scan] at h
    have hj : rb[j]? = some l := by
      have e : (rb.drop j)[0]? = some l := by rw [← hd]; rfl
      rw [List.getElem?_drop] at e
      simpa using e
    have hr : rest = rb.drop (j + 1) := by
      rw [← List.tail_drop, ← hd]; rfl
    split at h
    · cases h
    · split at h
      · cases h
        intro i l' h1 h2
        omega
      · rename_i hn
        intro i l' h1 h2 h3
        by_cases hij : i = j
        · subst hij
          rw [hj] at h3
          cases h3
          exact hn
        · exact ih (j + 1) (looks + 1) hr h i l' (by omega) h2 h3
theorem scan_no (m : TMap) (a : Atom) (rb ls : List Lit) (j looks lk : Nat) (hd : ls = rb.drop j) (h : scan m a ls j looks = .none lk) : ∀ i l', j ≤ i → rb[i]? = some l' → lay m a l'.atom i = none := by
  induction ls generalizing j looks with
  | nil =>
    intro i l' h1 h2
    have e : (rb.drop j)[i - j]? = some l' := by rw [List.getElem?_drop, ← h2]; congr 1; omega
    rw [← hd] at e
    simp at e
  | cons l rest ih =>
    rw [scan] at h
    have hj : rb[j]? = some l := by
      have e : (rb.drop j)[0]? = some l := by rw [← hd]; rfl
      rw [List.getElem?_drop] at e
      simpa using e
    have hr : rest = rb.drop (j + 1) := by
      rw [← List.tail_drop, ← hd]; rfl
    split at h
    · cases h
    · split at h
      · cases h
      · rename_i hn
        intro i l' h1 h3
        by_cases hij : i = j
        · subst hij
          rw [hj] at h3
          cases h3
          exact hn
        · exact ih (j + 1) (looks + 1) hr h i l' (by omega) h3
/-- The places h are ahead of the search's. -/
def Ahead (h : Nat → Nat) (at_ : List Nat) (fm : Nat) : Prop :=
  (∃ j a, (∀ i, i < j → at_[i]? = some (h i)) ∧ at_[j]? = some a ∧ a < h j) ∨ ((∀ i, i < at_.length → at_[i]? = some (h i)) ∧ fm ≤ h at_.length)
theorem Path.sub {rb sb : List Lit} {m0 m M : TMap} {h : Nat → Nat} {at_ : List Nat} {frs : List (List ByteArray)} (hs : ∀ (i : Nat) (l : Lit), sb[i]? = some l → ∃ l' : Lit, rb[h i]? = some l' ∧ FitA M l.atom l'.atom (h i : Nat)) (h0 : SubT m0 M) (hp : Path rb sb m0 at_ frs m) (ha : ∀ i, i < at_.length → at_[i]? = some (h i)) : SubT m M := by
  induction hp with
  | nil => exact h0
  | @snoc at_ frs m m' k fr l l' _ h1 h2 h3 ih =>
    have hk : k = h at_.length := by
      have := ha at_.length (by simp)
      simpa using this
    have hm : SubT m M := ih (fun i hi => by
      have := ha i (by simp; omega)
      rwa [List.getElem?_append_left hi] at this)
    subst hk
    obtain ⟨x, e1, e2⟩ := hs _ _ h1
    rw [h2] at e1
    cases e1
    obtain ⟨m2, fr2, e3, e4⟩ := lay_comp hm e2
    rw [h3] at e3
    cases e3
    exact e4
theorem srch_ne_no {rb sb : List Lit} {m0 M : TMap} {h : Nat → Nat} (hs : ∀ (i : Nat) (l : Lit), sb[i]? = some l → ∃ l' : Lit, rb[h i]? = some l' ∧ FitA M l.atom l'.atom (h i : Nat)) (h0 : SubT m0 M) (f : Nat) (st : SSt) (hp : Path rb sb m0 st.at_ st.frs st.m) (ha : Ahead h st.at_ st.from_) : srch rb sb f st ≠ .no := by
  induction f generalizing st with
  | zero => simp [srch]
  | succ f ih =>
    rw [srch]
    cases hl : sb[st.at_.length]? with
    | none => simp
    | some x =>
      simp only
      cases hsc : scan st.m x.atom (rb.drop st.from_) st.from_ st.looks with
      | many => simp
      | found k m' fr lk =>
        simp only
        obtain ⟨l', h1, h2⟩ := scan_found _ _ rb _ _ _ _ _ _ _ rfl hsc
        refine ih _ (hp.snoc hl h1 h2) ?_
        rcases ha with ⟨j, a, g1, g2, g3⟩ | ⟨g1, g2⟩
        · have hj := (List.getElem?_eq_some_iff.1 g2).1
          exact .inl ⟨j, a, fun i hi => by rw [List.getElem?_append_left (by omega)]; exact g1 i hi, by rw [List.getElem?_append_left hj]; exact g2, g3⟩
        · obtain ⟨y, e1, e2⟩ := hs _ _ hl
          obtain ⟨m2, fr2, e3, _⟩ := lay_comp (hp.sub hs h0 g1) e2
          have hk : k ≤ h st.at_.length := by
            apply Nat.le_of_not_lt
            intro hlt
            rw [scan_least _ _ rb _ _ _ _ _ _ _ rfl hsc _ _ g2 hlt e1] at e3
            cases e3
          by_cases hkk : k = h st.at_.length
          · refine .inr ⟨fun i hi => ?_, Nat.zero_le _⟩
            by_cases hlt : i < st.at_.length
            · rw [List.getElem?_append_left hlt]; exact g1 i hlt
            · obtain rfl : i = st.at_.length := by simp at hi; omega
              simp [hkk]
          · exact .inl ⟨st.at_.length, k, fun i hi => by rw [List.getElem?_append_left hi]; exact g1 i hi, by simp, by omega⟩
      | none lk =>
        simp only
        obtain ⟨m, at_, frs, lks, fm⟩ := st
        rcases ha with ⟨j, a, g1, g2, g3⟩ | ⟨g1, g2⟩
        · cases hp with
          | nil => simp at g2
          | snoc hp' h1 h2 h3 =>
            rename_i at2 frs2 m2 k2 fr2 l2 l3
            have h3' : lay m2 l2.atom l3.atom k2 = some (m, fr2) := h3
            show (match (at2 ++ [k2]).getLast? with
              | Option.none => SRes.no
              | some k => srch rb sb f ⟨withoutT m ((frs2 ++ [fr2]).getLast?.getD []), (at2 ++ [k2]).dropLast, (frs2 ++ [fr2]).dropLast, lk, k + 1⟩) ≠ .no
            rw [List.getLast?_concat, List.getLast?_concat, List.dropLast_concat, List.dropLast_concat]
            simp only [Option.getD_some]
            rw [lay_undo h3']
            refine ih _ hp' ?_
            have g2' : (at2 ++ [k2])[j]? = some a := g2
            have g1' : ∀ i, i < j → (at2 ++ [k2])[i]? = some (h i) := g1
            by_cases hj : j < at2.length
            · exact .inl ⟨j, a, fun i hi => by rw [← g1' i hi, List.getElem?_append_left (by omega)], by rw [← g2', List.getElem?_append_left hj], g3⟩
            · have hj2 := (List.getElem?_eq_some_iff.1 g2').1
              obtain rfl : j = at2.length := by simp at hj2; omega
              simp at g2'
              subst g2'
              exact .inr ⟨fun i hi => by rw [← g1' i hi, List.getElem?_append_left hi], g3⟩
        · exfalso
          obtain ⟨y, e1, e2⟩ := hs _ _ hl
          obtain ⟨m2, fr2, e3, _⟩ := lay_comp (hp.sub hs h0 g1) e2
          have := scan_no _ _ rb _ _ _ _ rfl hsc _ _ g2 e1
          rw [e3] at this
          cases this
theorem laid_not {r s : Rule} (hr : plain r = true) (hs : plain s = true) (h : (laid r s).2 = none) : (laid r s).1 = 241 ∨ ((laid r s).1 = 0 ∧ ¬ Hom r s) := by
  have hr0 : mayRule r = 0 := by unfold plain at hr; simp at hr; exact hr.1
  have hs0 : mayRule s = 0 := by unfold plain at hs; simp at hs; exact hs.1
  revert h
  unfold laid
  rw [if_neg (by simp [hr0]), if_neg (by simp [hs0]), if_neg (by simp [hr, hs])]
  split
  · rename_i hl
    intro _
    refine .inr ⟨rfl, ?_⟩
    rintro ⟨M, h, h1, _⟩
    obtain ⟨m, fr, e, _⟩ := lay_comp (m := fun _ => none) (M := M) (fun _ _ h => by cases h) h1
    rw [hl] at e
    cases e
  · rename_i m fr hl
    split
    · exact fun _ => .inl rfl
    · rename_i hsr
      intro _
      refine .inr ⟨rfl, ?_⟩
      rintro ⟨M, h, h1, h2⟩
      obtain ⟨m2, fr2, e, e2⟩ := lay_comp (m := fun _ => none) (M := M) (fun _ _ h => by cases h) h1
      rw [hl] at e
      cases e
      exact srch_ne_no h2 e2 _ ⟨m, [], [], 0, 0⟩ .nil (.inr ⟨fun i hi => by simp at hi, Nat.zero_le _⟩) hsr
    · intro h
      cases h
theorem laid_plain {r s : Rule} (h : (laid r s).1 = 0) : plain r = true ∧ plain s = true := by
  unfold laid at h
  split at h
  · rename_i hh
    exact absurd h hh
  · split at h
    · rename_i hh
      exact absurd h hh
    · split at h
      · simp at h
      · rename_i hpl
        simpa using hpl
/-- laid decides Hom. -/
theorem laid_iff {r s : Rule} (h : (laid r s).1 = 0) : (laid r s).2.isSome = true ↔ Hom r s := by
  obtain ⟨hr, hs⟩ := laid_plain h
  cases hl : (laid r s).2 with
  | none =>
    rcases laid_not hr hs hl with h1 | ⟨_, h1⟩
    · omega
    · simp [h1]
  | some l => simp [(laid_yes hl).2.2]
theorem mayTerm_kind {t : Term} (h : mayTerm t = 0) : 1 ≤ t.kind ∧ t.kind ≤ 7 := by
  unfold mayTerm at h
  split at h
  · omega
  · split at h
    · omega
    · split at h
      · omega
      · simp at h
theorem mayTerms_kind {ts : List Term} (h : mayTerms ts false = 0) : ∀ t ∈ ts, t.kind = 1 ∨ t.kind = 2 ∨ t.kind = 3 := by
  induction ts with
  | nil => intro t ht; cases ht
  | cons a ts ih =>
    rw [mayTerms] at h
    split at h
    · simp at h
    · rename_i hk
      split at h
      · rename_i hm
        exact absurd h hm
      · rename_i hm
        intro t ht
        rcases List.mem_cons.1 ht with rfl | ht
        · have := mayTerm_kind (by simpa using hm)
          omega
        · exact ih h t ht
theorem mayLits_mem {b : List Lit} (h : mayLits b = 0) : ∀ l ∈ b, mayLit l = 0 := by
  induction b with
  | nil => intro l hl; cases hl
  | cons a b ih =>
    rw [mayLits] at h
    split at h
    · rename_i hm
      exact absurd h hm
    · rename_i hm
      intro l hl
      rcases List.mem_cons.1 hl with rfl | hl
      · simpa using hm
      · exact ih h l hl
theorem plain_may {r : Rule} (h : plain r = true) : mayRule r = 0 ∧ (∀ l ∈ r.body, l.kind = 1) ∧ ∀ t ∈ r.head.terms, badT (bodyVars r.body) t = false := by
  unfold plain at h
  simp only [Bool.and_eq_true, decide_eq_true_eq, List.all_eq_true, Bool.not_eq_true', List.any_eq_false, Bool.not_eq_true] at h
  exact ⟨h.1, h.2.1, h.2.2⟩
theorem mayRule_lits {r : Rule} (h : mayRule r = 0) : mayAtom r.head true = 0 ∧ r.body.length ≤ 64 ∧ ∀ l ∈ r.body, mayLit l = 0 := by
  unfold mayRule at h
  split at h
  · rename_i hm
    exact absurd h hm
  · rename_i hm
    split at h
    · simp at h
    · exact ⟨by simpa using hm, by omega, mayLits_mem h⟩
theorem mayLit_atom {l : Lit} (h : mayLit l = 0) (hk : l.kind = 1) : mayAtom l.atom false = 0 := by
  unfold mayLit at h
  split at h
  · exact h
  · split at h
    · simp at h
    · rename_i h2
      omega
theorem plain_head {r : Rule} (h : plain r = true) : ∀ t ∈ r.head.terms, t.kind = 1 ∨ t.kind = 3 := by
  intro t ht
  have := (plain_may h).2.2 t ht
  unfold badT at this
  simp at this
  omega
theorem plain_body {r : Rule} (h : plain r = true) : ∀ l ∈ r.body, ∀ t ∈ l.atom.terms, t.kind = 1 ∨ t.kind = 2 ∨ t.kind = 3 := by
  intro l hl
  obtain ⟨h1, h2, _⟩ := plain_may h
  have ha := mayLit_atom ((mayRule_lits h1).2.2 l hl) (h2 l hl)
  unfold mayAtom at ha
  split at ha
  · rename_i hm
    exact absurd ha hm
  · split at ha
    · simp at ha
    · exact mayTerms_kind ha
end Go.Proofs.YtpgbenijjodoeaaGreat.K
