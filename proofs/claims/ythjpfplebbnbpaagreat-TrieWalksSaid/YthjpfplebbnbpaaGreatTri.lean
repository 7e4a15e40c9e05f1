/- Tries, a plain law: where the ways of a beginning lie, what the levels hold. No program in sight. -/
import Derived.Test.YthjpfplebbnbpaaGreatOrd
namespace Go.Proofs.YthjpfplebbnbpaaGreat
def wayAt (ways : List (List ByteArray)) (m : Nat) : List ByteArray := ways[m]?.getD []
/-- Does way m part from the one ahead in its first i + 1 constants? -/
def fresh (ways : List (List ByteArray)) (i m : Nat) : Bool := decide (m = 0) || !decide ((wayAt ways (m - 1)).take (i + 1) = (wayAt ways m).take (i + 1))
def starts (ways : List (List ByteArray)) (i n : Nat) : List Nat := (List.range n).filter (fresh ways i)
/-- How many places level i has by the first n ways. -/
def wid (ways : List (List ByteArray)) (i n : Nat) : Nat := (starts ways i n).length
def keyAt (ways : List (List ByteArray)) (i m : Nat) : ByteArray := (wayAt ways m)[i]?.getD ⟨#[]⟩
def keysM (ways : List (List ByteArray)) (i n : Nat) : List ByteArray := (starts ways i n).map (keyAt ways i)
def fromM (ways : List (List ByteArray)) (i n : Nat) : List Nat := (starts ways i n).map (wid ways (i + 1))
/-- Where place j of level i begins. -/
def st (ways : List (List ByteArray)) (i j : Nat) : Nat := (starts ways i ways.length)[j]?.getD ways.length
theorem starts_succ (ways : List (List ByteArray)) (i n : Nat) : starts ways i (n + 1) = starts ways i n ++ if fresh ways i n = true then [n] else [] := by
  unfold starts
  rw [List.range_succ, List.filter_append]
  congr 1
  by_cases h : fresh ways i n = true <;> simp [h]
theorem wid_succ (ways : List (List ByteArray)) (i n : Nat) : wid ways i (n + 1) = wid ways i n + if fresh ways i n = true then 1 else 0 := by
  unfold wid
  rw [starts_succ, List.length_append]
  split <;> rfl
theorem wid_zero (ways : List (List ByteArray)) (i : Nat) : wid ways i 0 = 0 := rfl
theorem wid_le (ways : List (List ByteArray)) (i n : Nat) : wid ways i n ≤ n := by
  induction n with
  | zero => exact Nat.le_refl _
  | succ n ih => rw [wid_succ]; split <;> omega
theorem wid_mono (ways : List (List ByteArray)) (i : Nat) {m n : Nat} (h : m ≤ n) : wid ways i m ≤ wid ways i n := by
  induction n with
  | zero => rw [Nat.le_zero.1 h]; exact Nat.le_refl _
  | succ n ih =>
    rcases Nat.lt_or_ge m (n + 1) with h1 | h1
    · have := ih (by omega)
      rw [wid_succ]
      omega
    · obtain rfl : m = n + 1 := by omega
      exact Nat.le_refl _
theorem starts_prefix (ways : List (List ByteArray)) (i : Nat) {m n : Nat} (h : m ≤ n) : ∃ t, starts ways i n = starts ways i m ++ t := by
  induction n with
  | zero => rw [Nat.le_zero.1 h]; exact ⟨[], (List.append_nil _).symm⟩
  | succ n ih =>
    rcases Nat.lt_or_ge m (n + 1) with h1 | h1
    · obtain ⟨t, ht⟩ := ih (by omega)
      rw [starts_succ, ht, List.append_assoc]
      exact ⟨_, rfl⟩
    · obtain rfl : m = n + 1 := by omega
      exact ⟨[], (List.append_nil _).symm⟩
theorem starts_at (ways : List (List ByteArray)) (i : Nat) {m n : Nat} (h : m < n) (hf : fresh ways i m = true) : (starts ways i n)[wid ways i m]? = some m := by
  obtain ⟨t, ht⟩ := starts_prefix ways i (show m + 1 ≤ n from h)
  rw [ht, starts_succ, if_pos hf, List.append_assoc]
  unfold wid
  rw [List.getElem?_append_right (Nat.le_refl _), Nat.sub_self]
  rfl
theorem starts_get (ways : List (List ByteArray)) (i : Nat) {j n : Nat} (h : j < wid ways i n) : ∃ m, (starts ways i n)[j]? = some m ∧ m < n ∧ fresh ways i m = true ∧ wid ways i m = j := by
  induction n with
  | zero => rw [wid_zero] at h; omega
  | succ n ih =>
    rcases Nat.lt_or_ge j (wid ways i n) with h1 | h1
    · obtain ⟨m, h2, h3, h4, h5⟩ := ih h1
      refine ⟨m, ?_, by omega, h4, h5⟩
      rw [starts_succ, List.getElem?_append_left h1]
      exact h2
    · rw [wid_succ] at h
      by_cases hf : fresh ways i n = true
      · rw [if_pos hf] at h
        obtain rfl : j = wid ways i n := by omega
        exact ⟨n, starts_at ways i (Nat.lt_succ_self n) hf, Nat.lt_succ_self n, hf, rfl⟩
      · rw [if_neg hf] at h
        omega
theorem st_end (ways : List (List ByteArray)) (i j : Nat) (h : wid ways i ways.length ≤ j) : st ways i j = ways.length := by
  unfold st
  rw [List.getElem?_eq_none h]
  rfl
theorem st_spec (ways : List (List ByteArray)) (i j : Nat) (h : j < wid ways i ways.length) : st ways i j < ways.length ∧ fresh ways i (st ways i j) = true ∧ wid ways i (st ways i j) = j := by
  obtain ⟨m, h1, h2, h3, h4⟩ := starts_get ways i h
  unfold st
  rw [h1]
  exact ⟨h2, h3, h4⟩
theorem wid_st (ways : List (List ByteArray)) (i j : Nat) (h : j ≤ wid ways i ways.length) : wid ways i (st ways i j) = j := by
  rcases Nat.lt_or_ge j (wid ways i ways.length) with h1 | h1
  · exact (st_spec ways i j h1).2.2
  · rw [st_end ways i j h1]
    omega
theorem st_le (ways : List (List ByteArray)) (i j : Nat) : st ways i j ≤ ways.length := by
  rcases Nat.lt_or_ge j (wid ways i ways.length) with h1 | h1
  · exact Nat.le_of_lt (st_spec ways i j h1).1
  · rw [st_end ways i j h1]
    exact Nat.le_refl _
theorem st_lt (ways : List (List ByteArray)) (i : Nat) {j k : Nat} (h : j < k) (hk : k ≤ wid ways i ways.length) : st ways i j < st ways i k := by
  rcases Nat.lt_or_ge (st ways i j) (st ways i k) with h1 | h1
  · exact h1
  · have := wid_mono ways i h1
    rw [wid_st ways i j (by omega), wid_st ways i k hk] at this
    omega
theorem st_mono (ways : List (List ByteArray)) (i : Nat) {j k : Nat} (h : j ≤ k) (hk : k ≤ wid ways i ways.length) : st ways i j ≤ st ways i k := by
  rcases Nat.lt_or_ge j k with h1 | h1
  · exact Nat.le_of_lt (st_lt ways i h1 hk)
  · obtain rfl : j = k := by omega
    exact Nat.le_refl _
/-- A place where level i may begin anew: a fresh way, or the end. -/
def Stop (ways : List (List ByteArray)) (i m : Nat) : Prop := m = ways.length ∨ m < ways.length ∧ fresh ways i m = true
theorem st_stop (ways : List (List ByteArray)) (i j : Nat) : Stop ways i (st ways i j) := by
  rcases Nat.lt_or_ge j (wid ways i ways.length) with h1 | h1
  · have := st_spec ways i j h1
    exact .inr ⟨this.1, this.2.1⟩
  · exact .inl (st_end ways i j h1)
theorem st_wid (ways : List (List ByteArray)) (i : Nat) {m : Nat} (h : Stop ways i m) : st ways i (wid ways i m) = m := by
  rcases h with rfl | ⟨h1, h2⟩
  · exact st_end ways i _ (Nat.le_refl _)
  · unfold st
    rw [starts_at ways i h1 h2]
    rfl
theorem take_down {a b : List ByteArray} {i k : Nat} (h : a.take i = b.take i) (hk : k ≤ i) : a.take k = b.take k := by
  have h1 := congrArg (List.take k) h
  rw [List.take_take, List.take_take, Nat.min_eq_left hk] at h1
  exact h1
theorem fresh_up (ways : List (List ByteArray)) {i k m : Nat} (h : fresh ways i m = true) (hk : i ≤ k) : fresh ways k m = true := by
  unfold fresh at *
  simp only [Bool.or_eq_true, decide_eq_true_eq, Bool.not_eq_true', decide_eq_false_iff_not] at *
  rcases h with h | h
  · exact .inl h
  · exact .inr fun e => h (take_down e (by omega))
theorem Stop.up {ways : List (List ByteArray)} {i k m : Nat} (h : Stop ways i m) (hk : i ≤ k) : Stop ways k m := by
  rcases h with h | ⟨h1, h2⟩
  · exact .inl h
  · exact .inr ⟨h1, fresh_up ways h2 hk⟩
theorem fresh_zero (ways : List (List ByteArray)) (i : Nat) : fresh ways i 0 = true := rfl
theorem st_zero (ways : List (List ByteArray)) (i : Nat) : st ways i 0 = 0 := by
  have := st_wid ways i (m := 0) (by
    rcases Nat.eq_zero_or_pos ways.length with h | h
    · exact .inl h.symm
    · exact .inr ⟨h, rfl⟩)
  rwa [wid_zero] at this
/-- Between two ways of one node no way parts. -/
theorem same_node (ways : List (List ByteArray)) (i : Nat) {m k : Nat} (h : m ≤ k) (hw : wid ways i (m + 1) = wid ways i (k + 1)) : (wayAt ways m).take (i + 1) = (wayAt ways k).take (i + 1) := by
  induction k with
  | zero => rw [Nat.le_zero.1 h]
  | succ k ih =>
    rcases Nat.lt_or_ge m (k + 1) with h1 | h1
    · have h2 := wid_mono ways i (show m + 1 ≤ k + 1 by omega)
      have h3 := wid_succ ways i (k + 1)
      have hf : ¬ fresh ways i (k + 1) = true := by
        intro hf
        rw [if_pos hf] at h3
        omega
      rw [if_neg hf] at h3
      rw [ih (by omega) (by omega)]
      unfold fresh at hf
      simpa using hf
    · obtain rfl : m = k + 1 := by omega
      rfl
/-- The first way of a node: all ways of the node begin as it does. -/
theorem in_node (ways : List (List ByteArray)) (i j m : Nat) (hj : j < wid ways i ways.length) (h1 : st ways i j ≤ m) (h2 : m < st ways i (j + 1)) : wid ways i (m + 1) = j + 1 ∧ (wayAt ways m).take (i + 1) = (wayAt ways (st ways i j)).take (i + 1) := by
  have e1 : wid ways i (st ways i j + 1) = j + 1 := by
    have := st_spec ways i j hj
    rw [wid_succ, if_pos this.2.1, this.2.2]
  have e2 := wid_st ways i (j + 1) hj
  have e3 := wid_mono ways i (show m + 1 ≤ st ways i (j + 1) by omega)
  have e4 := wid_mono ways i (show st ways i j + 1 ≤ m + 1 by omega)
  exact ⟨by omega, (same_node ways i h1 (by omega)).symm⟩
/-- The place of a way. -/
def nd (ways : List (List ByteArray)) (i m : Nat) : Nat := wid ways i (m + 1) - 1
theorem nd_spec (ways : List (List ByteArray)) (i m : Nat) (hm : m < ways.length) : nd ways i m + 1 = wid ways i (m + 1) ∧ nd ways i m < wid ways i ways.length ∧ st ways i (nd ways i m) ≤ m ∧ m < st ways i (nd ways i m + 1) := by
  have h0 : 0 < wid ways i (m + 1) := by
    have := wid_mono ways i (show 1 ≤ m + 1 by omega)
    have h1 : wid ways i 1 = _ := wid_succ ways i 0
    rw [fresh_zero, if_pos rfl, wid_zero] at h1
    omega
  have h1 : nd ways i m + 1 = wid ways i (m + 1) := by unfold nd; omega
  have h2 := wid_mono ways i (show m + 1 ≤ ways.length by omega)
  refine ⟨h1, by omega, ?_, ?_⟩
  · rcases Nat.lt_or_ge m (st ways i (nd ways i m)) with h | h
    · have h3 := wid_mono ways i (show m + 1 ≤ st ways i (nd ways i m) by omega)
      rw [wid_st ways i _ (by omega)] at h3
      omega
    · exact h
  · rcases Nat.lt_or_ge m (st ways i (nd ways i m + 1)) with h | h
    · exact h
    · have hn : nd ways i m + 1 < wid ways i ways.length := by
        rcases Nat.lt_or_ge (nd ways i m + 1) (wid ways i ways.length) with h5 | h5
        · exact h5
        · rw [st_end ways i _ h5] at h
          omega
      have h6 := st_spec ways i _ hn
      have h4 := wid_succ ways i (st ways i (nd ways i m + 1))
      rw [if_pos h6.2.1, h6.2.2] at h4
      have h3 := wid_mono ways i (show st ways i (nd ways i m + 1) + 1 ≤ m + 1 by omega)
      omega
/-! The order of ways. -/
structure Ways (d : Nat) (ways : List (List ByteArray)) : Prop where
  rising : Rising ways
  len : ∀ r ∈ ways, r.length = d
theorem Ways.at {d : Nat} {ways : List (List ByteArray)} (h : Ways d ways) {m : Nat} (hm : m < ways.length) : ways[m]? = some (wayAt ways m) ∧ (wayAt ways m).length = d := by
  have h1 : ways[m]? = some ways[m] := List.getElem?_eq_getElem hm
  have h2 : wayAt ways m = ways[m] := by unfold wayAt; rw [h1]; rfl
  rw [h2]
  exact ⟨h1, h.len _ (List.getElem_mem hm)⟩
theorem Ways.lt {d : Nat} {ways : List (List ByteArray)} (h : Ways d ways) {m k : Nat} (hmk : m < k) (hk : k < ways.length) : cmpRow (wayAt ways m) (wayAt ways k) < 0 := by
  obtain ⟨h1, h2⟩ := List.getElem?_eq_some_iff.1 (h.at (show m < ways.length by omega)).1
  obtain ⟨h3, h4⟩ := List.getElem?_eq_some_iff.1 (h.at hk).1
  have := List.pairwise_iff_getElem.1 h.rising m k h1 h3 hmk
  rwa [h2, h4] at this
theorem cmp_take : ∀ (i : Nat) (x y : List ByteArray), x.length = y.length → cmpRow x y < 0 → cmpRow (x.take i) (y.take i) ≤ 0
  | 0, _, _, _, _ => by simp [cmpRow]
  | i + 1, [], [], _, _ => by simp [cmpRow]
  | i + 1, a :: x, [], h, _ => by simp at h
  | i + 1, [], b :: y, h, _ => by simp at h
  | i + 1, a :: x, b :: y, h, h2 => by
    rw [List.take_succ_cons, List.take_succ_cons, cmpRow]
    rw [cmpRow] at h2
    by_cases hc : cmpB a b ≠ 0
    · rw [if_pos hc] at h2 ⊢
      omega
    · rw [if_neg hc] at h2 ⊢
      exact cmp_take i x y (by simpa using h) h2
theorem cmp_le_anti {x y : List ByteArray} (h1 : cmpRow x y ≤ 0) (h2 : cmpRow y x ≤ 0) : x = y := by
  have := cmpRow_swap x y
  exact (cmpRow_zero x y).1 (by omega)
theorem cmp_le_trans {x y z : List ByteArray} (h1 : cmpRow x y ≤ 0) (h2 : cmpRow y z ≤ 0) : cmpRow x z ≤ 0 := by
  by_cases e1 : cmpRow x y = 0
  · rw [(cmpRow_zero x y).1 e1]; exact h2
  · by_cases e2 : cmpRow y z = 0
    · rw [← (cmpRow_zero y z).1 e2]; exact h1
    · have := cmpRow_trans x y z (by omega) (by omega)
      omega
theorem Ways.take_le {d : Nat} {ways : List (List ByteArray)} (h : Ways d ways) (i : Nat) {m k : Nat} (hmk : m ≤ k) (hk : k < ways.length) : cmpRow ((wayAt ways m).take i) ((wayAt ways k).take i) ≤ 0 := by
  rcases Nat.lt_or_ge m k with h1 | h1
  · exact cmp_take i _ _ (by rw [(h.at (by omega : m < ways.length)).2, (h.at hk).2]) (h.lt h1 hk)
  · obtain rfl : m = k := by omega
    rw [(cmpRow_zero _ _).2 rfl]
    exact Int.le_refl _
/-- What lies between two ways that begin alike begins so too. -/
theorem Ways.between {d : Nat} {ways : List (List ByteArray)} (h : Ways d ways) {i m x k : Nat} (h1 : m ≤ x) (h2 : x ≤ k) (hk : k < ways.length) (he : (wayAt ways m).take i = (wayAt ways k).take i) : (wayAt ways x).take i = (wayAt ways m).take i := by
  refine cmp_le_anti ?_ (h.take_le i h1 (by omega))
  rw [he]
  exact h.take_le i h2 hk
theorem Ways.same_nd {d : Nat} {ways : List (List ByteArray)} (h : Ways d ways) {i m k : Nat} (hmk : m ≤ k) (hk : k < ways.length) (he : (wayAt ways m).take (i + 1) = (wayAt ways k).take (i + 1)) : wid ways i (m + 1) = wid ways i (k + 1) := by
  induction k with
  | zero => rw [Nat.le_zero.1 hmk]
  | succ k ih =>
    rcases Nat.lt_or_ge m (k + 1) with h1 | h1
    · have e := h.between (i := i + 1) (show m ≤ k by omega) (Nat.le_succ k) hk he
      rw [ih (by omega) (by omega) e.symm, wid_succ ways i (k + 1), if_neg]
      · rfl
      · unfold fresh
        simp
        rw [e, he]
    · obtain rfl : m = k + 1 := by omega
      rfl
/-- Two ways begin alike just if they go through one place. -/
theorem Ways.nd_iff {d : Nat} {ways : List (List ByteArray)} (h : Ways d ways) {i m k : Nat} (hm : m < ways.length) (hk : k < ways.length) : (wayAt ways m).take (i + 1) = (wayAt ways k).take (i + 1) ↔ nd ways i m = nd ways i k := by
  have e1 := (nd_spec ways i m hm).1
  have e2 := (nd_spec ways i k hk).1
  rcases Nat.le_total m k with hmk | hmk
  · constructor
    · intro he
      have := h.same_nd hmk hk he
      omega
    · intro he
      exact same_node ways i hmk (by omega)
  · constructor
    · intro he
      have := h.same_nd hmk hm he.symm
      omega
    · intro he
      exact (same_node ways i hmk (by omega)).symm
theorem cmp_next : ∀ (i : Nat) (x y : List ByteArray), i < x.length → i < y.length → x.take i = y.take i → x.take (i + 1) ≠ y.take (i + 1) → cmpRow x y < 0 → ltB (x[i]?.getD ⟨#[]⟩) (y[i]?.getD ⟨#[]⟩) = true
  | i, [], _, h, _, _, _, _ => by simp at h
  | i, _ :: _, [], _, h, _, _, _ => by simp at h
  | 0, a :: x, b :: y, _, _, _, h2, h3 => by
    simp only [List.getElem?_cons_zero, Option.getD_some]
    rw [cmpRow] at h3
    have hne : cmpB a b ≠ 0 := by
      intro e
      have := (cmpB_zero a b).1 e
      apply h2
      simp [this]
    rw [if_pos hne] at h3
    exact (cmpB_neg a b).1 h3
  | i + 1, a :: x, b :: y, h0, h1, h2, h3, h4 => by
    simp only [List.getElem?_cons_succ]
    rw [List.take_succ_cons, List.take_succ_cons] at h2 h3
    injection h2 with e1 e2
    subst e1
    rw [cmpRow, if_neg (by rw [(cmpB_zero a a).2 rfl]; simp)] at h4
    exact cmp_next i x y (by simpa using h0) (by simpa using h1) e2 (fun e => h3 (by rw [e])) h4
/-- The keys of ways that begin alike rise. -/
theorem Ways.key_lt {d : Nat} {ways : List (List ByteArray)} (h : Ways d ways) {i m k : Nat} (hi : i < d) (hmk : m < k) (hk : k < ways.length) (he : (wayAt ways m).take i = (wayAt ways k).take i) (hne : (wayAt ways m).take (i + 1) ≠ (wayAt ways k).take (i + 1)) : ltB (keyAt ways i m) (keyAt ways i k) = true :=
  cmp_next i _ _ (by rw [(h.at (by omega : m < ways.length)).2]; exact hi) (by rw [(h.at hk).2]; exact hi) he hne (h.lt hmk hk)
/-- All ways part at the depth. -/
theorem Ways.fresh_d {d : Nat} {ways : List (List ByteArray)} (h : Ways d ways) {i m : Nat} (hi : d ≤ i + 1) (hm : m < ways.length) : fresh ways i m = true := by
  rcases Nat.eq_zero_or_pos m with rfl | h0
  · rfl
  · unfold fresh
    have h1 := h.lt (show m - 1 < m by omega) hm
    have l1 := (h.at (show m - 1 < ways.length by omega)).2
    have l2 := (h.at hm).2
    rw [List.take_of_length_le (by omega), List.take_of_length_le (by omega)]
    have hne : wayAt ways (m - 1) ≠ wayAt ways m := by
      intro e
      rw [e, (cmpRow_zero _ _).2 rfl] at h1
      omega
    simp [hne]
theorem Ways.wid_d {d : Nat} {ways : List (List ByteArray)} (h : Ways d ways) {i m : Nat} (hi : d ≤ i + 1) (hm : m ≤ ways.length) : wid ways i m = m := by
  induction m with
  | zero => rfl
  | succ m ih => rw [wid_succ, if_pos (h.fresh_d hi (by omega)), ih (by omega)]
theorem keysM_succ (ways : List (List ByteArray)) (i n : Nat) : keysM ways i (n + 1) = if fresh ways i n = true then keysM ways i n ++ [keyAt ways i n] else keysM ways i n := by
  unfold keysM
  rw [starts_succ, List.map_append]
  split <;> simp
theorem fromM_succ (ways : List (List ByteArray)) (i n : Nat) : fromM ways i (n + 1) = if fresh ways i n = true then fromM ways i n ++ [wid ways (i + 1) n] else fromM ways i n := by
  unfold fromM
  rw [starts_succ, List.map_append]
  split <;> simp
theorem keysM_len (ways : List (List ByteArray)) (i n : Nat) : (keysM ways i n).length = wid ways i n := by unfold keysM; rw [List.length_map]; rfl
theorem fromM_len (ways : List (List ByteArray)) (i n : Nat) : (fromM ways i n).length = wid ways i n := by unfold fromM; rw [List.length_map]; rfl
theorem keysM_at (ways : List (List ByteArray)) (i j : Nat) (h : j < wid ways i ways.length) : (keysM ways i ways.length)[j]? = some (keyAt ways i (st ways i j)) := by
  obtain ⟨m, h1, _⟩ := starts_get ways i h
  unfold keysM st
  rw [List.getElem?_map, h1]
  rfl
theorem fromM_at (ways : List (List ByteArray)) (i j : Nat) (h : j ≤ wid ways i ways.length) : (fromM ways i ways.length ++ [wid ways (i + 1) ways.length])[j]? = some (wid ways (i + 1) (st ways i j)) := by
  rcases Nat.lt_or_ge j (wid ways i ways.length) with h1 | h1
  · rw [List.getElem?_append_left (by rw [fromM_len]; exact h1)]
    obtain ⟨m, h2, _⟩ := starts_get ways i h1
    unfold fromM st
    rw [List.getElem?_map, h2]
    rfl
  · obtain rfl : j = wid ways i ways.length := by omega
    rw [List.getElem?_append_right (by rw [fromM_len]; exact Nat.le_refl _), fromM_len, Nat.sub_self, st_end ways i _ (Nat.le_refl _)]
    rfl
end Go.Proofs.YthjpfplebbnbpaaGreat
