/- The plain law: a laying that the search finds is one, by one map of variables. -/
import Derived.Test.YtcphjfggjjonpaaFits
namespace Go.Proofs.Ytcphjfggjjonpaa
theorem updT_same {m : TMap} {k : ByteArray} {v : Thing} (h : m k = some v) : updT m k v = m := by
  funext x
  by_cases hx : x = k <;> simp [updT, hx, h]
/-- lay's map is fits' map; and without what became something by it, it is the map of before. -/
theorem layGo_fits (lit : Int) (ts os : List Term) (i : Nat) (m : TMap) (fr : List ByteArray) (m' : TMap) (fr' : List ByteArray) (h : layGo lit ts os i m fr = some (m', fr')) : fitsGo lit ts os i m = some m' := by
  induction ts generalizing os i m fr with
  | nil => simp [layGo] at h; simp [fitsGo, h.1]
  | cons t ts ih =>
    cases os with
    | nil => simp [layGo] at h; simp [fitsGo, h.1]
    | cons o os =>
      rw [layGo] at h
      rw [fitsGo]
      by_cases h3 : t.kind = 3
      · rw [if_pos h3] at h
        by_cases ho : o = t
        · rw [if_pos ho] at h
          rw [if_neg (fun hh => hh.2 ho.symm), if_neg (by omega)]
          exact ih os (i + 1) m fr h
        · rw [if_neg ho] at h
          cases h
      · rw [if_neg h3] at h
        rw [if_neg (fun hh => h3 hh.1)]
        by_cases h1 : t.kind = 1
        · rw [if_pos h1] at h ⊢
          cases hm : m t.text with
          | none =>
            rw [hm] at h
            exact ih os (i + 1) _ _ h
          | some y =>
            rw [hm] at h
            by_cases hy : y = thingOf o lit i
            · simp only [if_pos hy] at h ⊢
              rw [updT_same (by rw [hm, hy])]
              exact ih os (i + 1) m fr h
            · simp only [if_neg hy] at h
              cases h
        · rw [if_neg h1] at h ⊢
          exact ih os (i + 1) m fr h
theorem lay_fits {m m' : TMap} {a o : Atom} {lit : Int} {fr : List ByteArray} (h : lay m a o lit = some (m', fr)) : fits m a o lit = some m' := by
  unfold lay at h
  unfold fits
  by_cases hc : a.pred = o.pred ∧ a.terms.length = o.terms.length
  · rw [if_pos hc] at h ⊢
    exact layGo_fits _ _ _ _ _ _ _ _ h
  · rw [if_neg hc] at h
    cases h
theorem layGo_undo (lit : Int) (ts os : List Term) (i : Nat) (m0 m : TMap) (fr : List ByteArray) (m' : TMap) (fr' : List ByteArray) (h0 : ∀ x ∈ fr, m0 x = none) (h1 : ∀ x, x ∉ fr → m x = m0 x)
    (h : layGo lit ts os i m fr = some (m', fr')) : (∀ x ∈ fr', m0 x = none) ∧ ∀ x, x ∉ fr' → m' x = m0 x := by
  induction ts generalizing os i m fr with
  | nil => simp [layGo] at h; obtain ⟨rfl, rfl⟩ := h; exact ⟨h0, h1⟩
  | cons t ts ih =>
    cases os with
    | nil => simp [layGo] at h; obtain ⟨rfl, rfl⟩ := h; exact ⟨h0, h1⟩
    | cons o os =>
      rw [layGo] at h
      by_cases h3 : t.kind = 3
      · rw [if_pos h3] at h
        by_cases ho : o = t
        · rw [if_pos ho] at h
          exact ih os (i + 1) m fr h0 h1 h
        · rw [if_neg ho] at h
          cases h
      · rw [if_neg h3] at h
        by_cases hk : t.kind = 1
        · rw [if_pos hk] at h
          cases hm : m t.text with
          | none =>
            rw [hm] at h
            refine ih os (i + 1) _ _ ?_ ?_ h
            · intro x hx
              rcases List.mem_append.1 hx with hx | hx
              · exact h0 x hx
              · cases List.mem_singleton.1 hx
                by_cases hf : t.text ∈ fr
                · exact h0 _ hf
                · rw [← h1 _ hf]; exact hm
            · intro x hx
              simp at hx
              simp only [updT, if_neg hx.2]
              exact h1 x hx.1
          | some y =>
            rw [hm] at h
            by_cases hy : y = thingOf o lit i
            · simp only [if_pos hy] at h
              exact ih os (i + 1) m fr h0 h1 h
            · simp only [if_neg hy] at h
              cases h
        · rw [if_neg hk] at h
          exact ih os (i + 1) m fr h0 h1 h
theorem lay_undo {m m' : TMap} {a o : Atom} {lit : Int} {fr : List ByteArray} (h : lay m a o lit = some (m', fr)) : withoutT m' fr = m := by
  unfold lay at h
  by_cases hc : a.pred = o.pred ∧ a.terms.length = o.terms.length
  · rw [if_pos hc] at h
    obtain ⟨g0, g1⟩ := layGo_undo lit _ _ 0 m m [] m' fr (by simp) (fun _ _ => rfl) h
    funext x
    by_cases hx : x ∈ fr
    · simp [withoutT, hx, g0 x hx]
    · simp [withoutT, hx, g1 x hx]
  · rw [if_neg hc] at h
    cases h
/-- The search's state: each atom of the first is laid onto its literal, the map grown by it. -/
inductive Path (rb sb : List Lit) (m0 : TMap) : List Nat → List (List ByteArray) → TMap → Prop
  | nil : Path rb sb m0 [] [] m0
  | snoc {at_ : List Nat} {frs : List (List ByteArray)} {m m' : TMap} {k : Nat} {fr : List ByteArray} {l l' : Lit} : Path rb sb m0 at_ frs m → sb[at_.length]? = some l → rb[k]? = some l' → lay m l.atom l'.atom k = some (m', fr) → Path rb sb m0 (at_ ++ [k]) (frs ++ [fr]) m'
theorem scan_found (m : TMap) (a : Atom) (rb ls : List Lit) (j looks k lk : Nat) (m' : TMap) (fr : List ByteArray) (hd : ls = rb.drop j) (h : scan m a ls j looks = .found k m' fr lk) : ∃ l', rb[k]? = some l' ∧ lay m a l'.atom k = some (m', fr) := by
  induction ls generalizing j looks with
  | nil => simp [scan] at h
  | cons l rest ih =>
    rw [scan] at h
    split at h
    · cases h
    · have hj : rb[j]? = some l := by
        have e : (rb.drop j)[0]? = some l := by rw [← hd]; rfl
        rw [List.getElem?_drop] at e
        simpa using e
      have hr : rest = rb.drop (j + 1) := by
        rw [← List.tail_drop, ← hd]; rfl
      split at h
      · cases h
        exact ⟨l, hj, by assumption⟩
      · exact ih (j + 1) (looks + 1) hr h
theorem srch_yes (rb sb : List Lit) (m0 : TMap) (f : Nat) (st : SSt) (l : List Nat) (hp : Path rb sb m0 st.at_ st.frs st.m) (h : srch rb sb f st = .yes l) : ∃ frs m, Path rb sb m0 l frs m ∧ sb[l.length]? = none := by
  induction f generalizing st with
  | zero => simp [srch] at h
  | succ f ih =>
    rw [srch] at h
    cases ha : sb[st.at_.length]? with
    | none =>
      rw [ha] at h
      cases h
      exact ⟨_, _, hp, ha⟩
    | some x =>
      rw [ha] at h
      simp only at h
      cases hs : scan st.m x.atom (rb.drop st.from_) st.from_ st.looks with
      | many => rw [hs] at h; cases h
      | found k m' fr lk =>
        rw [hs] at h
        obtain ⟨l', h1, h2⟩ := scan_found _ _ rb _ _ _ _ _ _ _ rfl hs
        exact ih _ (hp.snoc ha h1 h2) h
      | none lk =>
        rw [hs] at h
        simp only at h
        obtain ⟨m, at_, frs, lks, fm⟩ := st
        cases hp with
        | nil => simp at h
        | snoc hp' h1 h2 h3 =>
          rename_i at2 frs2 m2 k2 fr2 l2 l3
          have h' : (match (at2 ++ [k2]).getLast? with
            | Option.none => SRes.no
            | some k => srch rb sb f ⟨withoutT m ((frs2 ++ [fr2]).getLast?.getD []), (at2 ++ [k2]).dropLast, (frs2 ++ [fr2]).dropLast, lk, k + 1⟩) = .yes l := h
          have h3' : lay m2 l2.atom l3.atom k2 = some (m, fr2) := h3
          rw [List.getLast?_concat, List.getLast?_concat, List.dropLast_concat, List.dropLast_concat] at h'
          simp only [Option.getD_some] at h'
          rw [lay_undo h3'] at h'
          exact ih _ hp' h'
/-- From a map on, atom after atom fits onto its literal, and the last map is me. -/
def GoodTo (rb sb : List Lit) : TMap → Nat → List Nat → TMap → Prop
  | m, _, [], me => m = me
  | m, i, k :: ks, me => ∃ l l' m', sb[i]? = some l ∧ rb[k]? = some l' ∧ fits m l.atom l'.atom k = some m' ∧ GoodTo rb sb m' (i + 1) ks me
theorem GoodTo.snoc {rb sb : List Lit} {m m1 m2 : TMap} {i k : Nat} {ks : List Nat} {l l' : Lit} (h : GoodTo rb sb m i ks m1) (h1 : sb[i + ks.length]? = some l) (h2 : rb[k]? = some l') (h3 : fits m1 l.atom l'.atom k = some m2) : GoodTo rb sb m i (ks ++ [k]) m2 := by
  induction ks generalizing m i with
  | nil =>
    cases (show m = m1 from h)
    exact ⟨l, l', m2, by simpa using h1, h2, h3, rfl⟩
  | cons k' ks ih =>
    obtain ⟨x, x', m', g1, g2, g3, g4⟩ := h
    exact ⟨x, x', m', g1, g2, g3, ih g4 (by rw [← h1]; congr 1; simp; omega)⟩
theorem Path.good {rb sb : List Lit} {m0 m : TMap} {l : List Nat} {frs : List (List ByteArray)} (h : Path rb sb m0 l frs m) : GoodTo rb sb m0 0 l m := by
  induction h with
  | nil => rfl
  | snoc _ h1 h2 h3 ih => exact ih.snoc (by simpa using h1) h2 (lay_fits h3)
theorem Path.len {rb sb : List Lit} {m0 m : TMap} {l : List Nat} {frs : List (List ByteArray)} (h : Path rb sb m0 l frs m) : l.length ≤ sb.length := by
  cases h with
  | nil => exact Nat.zero_le _
  | snoc _ h1 h2 h3 =>
    have := (List.getElem?_eq_some_iff.1 h1).1
    simp
    omega
theorem laid_good {r s : Rule} {l : List Nat} (h : (laid r s).2 = some l) : l.length = s.body.length ∧ ∃ m me, fits (fun _ => none) s.head r.head (-1) = some m ∧ GoodTo r.body s.body m 0 l me := by
  unfold laid at h
  split at h
  · cases h
  · split at h
    · cases h
    · split at h
      · cases h
      · split at h
        · cases h
        · rename_i m fr hl
          split at h
          · cases h
          · cases h
          · rename_i l2 hs
            cases h
            obtain ⟨frs, me, hp, hn⟩ := srch_yes r.body s.body m _ ⟨m, [], [], 0, 0⟩ l .nil hs
            have h1 := hp.len
            have h2 := List.getElem?_eq_none_iff.1 hn
            exact ⟨by omega, m, me, lay_fits hl, hp.good⟩
end Go.Proofs.Ytcphjfggjjonpaa
