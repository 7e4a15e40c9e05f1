/- What the levels hold while a trie is built: a plain law. -/
import Derived.Test.YthjpfplebbnbpaaGreatBld
namespace Go.Proofs.YthjpfplebbnbpaaGreat
/-- May an order be one of columns? -/
def orderOk (ar : Nat) (os : List Int) : Prop := ∀ (i : Nat) (c : Int), os[i]? = some c → 0 ≤ c ∧ c < (ar : Int) ∧ ¬ c ∈ os.take i
theorem nodup_len : ∀ (n : Nat) (l : List Nat), l.Nodup → (∀ x ∈ l, x < n) → l.length ≤ n
  | 0, [], _, _ => Nat.le_refl _
  | 0, x :: l, _, h => absurd (h x (List.mem_cons_self ..)) (Nat.not_lt_zero _)
  | n + 1, l, hd, h => by
    have h2 := nodup_len n (l.erase n) (hd.erase n) (fun x hx => by
      have := (List.Nodup.mem_erase_iff hd).1 hx
      have h3 := h x this.2
      have := this.1
      omega)
    rw [List.length_erase] at h2
    split at h2 <;> omega
theorem orderOk.len {ar : Nat} {os : List Int} (h : orderOk ar os) : os.length ≤ ar := by
  have hn : (os.map Int.toNat).Nodup := by
    refine List.pairwise_iff_getElem.2 fun i j hi hj hij => ?_
    rw [List.getElem_map, List.getElem_map]
    rw [List.length_map] at hi hj
    intro e
    have h1 := h i os[i] (List.getElem?_eq_getElem hi)
    have h2 := h j os[j] (List.getElem?_eq_getElem hj)
    apply h2.2.2
    have e2 : os[j] = os[i] := by omega
    rw [e2]
    exact List.mem_take_iff_getElem.2 ⟨i, by omega, rfl⟩
  have := nodup_len ar _ hn (fun x hx => by
    obtain ⟨c, hc, rfl⟩ := List.mem_map.1 hx
    obtain ⟨i, hi⟩ := List.mem_iff_getElem?.1 hc
    have := h i c hi
    omega)
  rwa [List.length_map] at this
def natV (n : Nat) : Int := (n : Int)
def LevOk (ways : List (List ByteArray)) (d : Nat) (cnt : Nat → Nat) (ls : List Lev) : Prop := ls.length = d ∧ ∀ (i : Nat) (l : Lev), ls[i]? = some l → l.ks = keysM ways i (cnt i) ∧ l.fs = (fromM ways i (cnt i)).map natV
def cntI (i n : Nat) (j : Nat) : Nat := if j < i then n + 1 else n
theorem LevOk.start {ways : List (List ByteArray)} {d n : Nat} {ls : List Lev} (h : LevOk ways d (fun _ => n) ls) : LevOk ways d (cntI 0 n) ls := ⟨h.1, fun i l hl => by unfold cntI; rw [if_neg (Nat.not_lt_zero _)]; exact h.2 i l hl⟩
theorem LevOk.stop {ways : List (List ByteArray)} {d n : Nat} {ls : List Lev} (h : LevOk ways d (cntI d n) ls) : LevOk ways d (fun _ => n + 1) ls := ⟨h.1, fun i l hl => by
  have := h.2 i l hl
  unfold cntI at this
  rwa [if_pos (by have := (List.getElem?_eq_some_iff.1 hl).1; have := h.1; omega)] at this⟩
theorem LevOk.skip {ways : List (List ByteArray)} {d n i : Nat} {ls : List Lev} (h : LevOk ways d (cntI i n) ls) (hf : fresh ways i n = false) : LevOk ways d (cntI (i + 1) n) ls := ⟨h.1, fun j l hl => by
  obtain ⟨h1, h2⟩ := h.2 j l hl
  unfold cntI at *
  by_cases hj : j = i
  · subst hj
    rw [if_neg (Nat.lt_irrefl _)] at h1 h2
    rw [if_pos (Nat.lt_succ_self _), keysM_succ, fromM_succ, if_neg (by rw [hf]; simp), if_neg (by rw [hf]; simp)]
    exact ⟨h1, h2⟩
  · by_cases h3 : j < i
    · rw [if_pos h3] at h1 h2
      rw [if_pos (by omega)]
      exact ⟨h1, h2⟩
    · rw [if_neg h3] at h1 h2
      rw [if_neg (by omega)]
      exact ⟨h1, h2⟩⟩
theorem LevOk.at {ways : List (List ByteArray)} {d n i : Nat} {ls : List Lev} (h : LevOk ways d (cntI i n) ls) (hi : i < d) : ∃ l, ls[i]? = some l ∧ l.ks = keysM ways i n ∧ l.fs = (fromM ways i n).map natV := by
  obtain ⟨l, hl⟩ : ∃ l, ls[i]? = some l := ⟨_, List.getElem?_eq_getElem (by rw [h.1]; exact hi)⟩
  have := h.2 i l hl
  unfold cntI at this
  rw [if_neg (Nat.lt_irrefl _)] at this
  exact ⟨l, hl, this⟩
theorem LevOk.push {ways : List (List ByteArray)} {d n i : Nat} {ls : List Lev} {l : Lev} {kv fv : Value} (h : LevOk ways d (cntI i n) ls) (hl : ls[i]? = some l) (hf : fresh ways i n = true) : LevOk ways d (cntI (i + 1) n) (ls.set i { kv := kv, fv := fv, ks := l.ks ++ [keyAt ways i n], fs := l.fs ++ [natV (wid ways (i + 1) n)] }) := ⟨by rw [List.length_set]; exact h.1, fun j a ha => by
  rcases Lev.get_set ha with ⟨rfl, rfl⟩ | ⟨hne, ha2⟩
  · obtain ⟨h1, h2⟩ := h.2 j l hl
    unfold cntI at *
    rw [if_neg (Nat.lt_irrefl _)] at h1 h2
    rw [if_pos (Nat.lt_succ_self _), keysM_succ, fromM_succ, if_pos hf, if_pos hf, List.map_append]
    exact ⟨by rw [h1], by rw [h2]; rfl⟩
  · obtain ⟨h1, h2⟩ := h.2 j a ha2
    unfold cntI at *
    by_cases h3 : j < i
    · rw [if_pos h3] at h1 h2
      rw [if_pos (by omega)]
      exact ⟨h1, h2⟩
    · rw [if_neg h3] at h1 h2
      rw [if_neg (by omega)]
      exact ⟨h1, h2⟩⟩
/-- How wide the next level is by now. -/
theorem LevOk.next {ways : List (List ByteArray)} {d n i : Nat} {ls : List Lev} (h : LevOk ways d (cntI i n) ls) (hw : Ways d ways) (hi : i < d) (hn : n ≤ ways.length) : (∀ l, ls[i + 1]? = some l → natV (wid ways (i + 1) n) = (l.ks.length : Int)) ∧ (ls.length ≤ i + 1 → natV (wid ways (i + 1) n) = (n : Int)) := by
  refine ⟨fun l hl => ?_, fun hl => ?_⟩
  · obtain ⟨h1, _⟩ := h.2 _ l hl
    unfold cntI at h1
    rw [if_neg (by omega)] at h1
    rw [h1, keysM_len]
    rfl
  · rw [h.1] at hl
    rw [hw.wid_d (by omega) hn]
    rfl
/-- Is a way new in its first i constants? -/
def freshT (ways : List (List ByteArray)) (i m : Nat) : Bool := decide (m = 0) || !decide ((wayAt ways (m - 1)).take i = (wayAt ways m).take i)
theorem freshT_succ (ways : List (List ByteArray)) (i m : Nat) : freshT ways (i + 1) m = fresh ways i m := rfl
theorem freshT_zero (ways : List (List ByteArray)) (m : Nat) : freshT ways 0 m = decide (m = 0) := by simp [freshT]
theorem freshT_step {ways : List (List ByteArray)} {i m : Nat} {x y : ByteArray} (hx : (wayAt ways (m - 1))[i]? = some x) (hy : (wayAt ways m)[i]? = some y) (hm : m ≠ 0) (hf : freshT ways i m = false) : fresh ways i m = !decide (x = y) := by
  unfold freshT at hf
  simp only [Bool.or_eq_false_iff, decide_eq_false_iff_not, Bool.not_eq_false', decide_eq_true_eq] at hf
  unfold fresh
  rw [take_at hx, take_at hy, hf.2]
  simp [hm]
theorem freshT_on {ways : List (List ByteArray)} {i m : Nat} (h : freshT ways i m = true) : fresh ways i m = true := by
  unfold freshT at h
  unfold fresh
  simp only [Bool.or_eq_true, decide_eq_true_eq, Bool.not_eq_true', decide_eq_false_iff_not] at *
  rcases h with h | h
  · exact .inl h
  · exact .inr fun e => h (take_down e (Nat.le_succ i))
/-- The levels at the end: the first k have their last place. -/
def LevEnd (ways : List (List ByteArray)) (d k : Nat) (ls : List Lev) : Prop := ls.length = d ∧ ∀ (i : Nat) (l : Lev), ls[i]? = some l → l.ks = keysM ways i ways.length ∧ l.fs = (if i < k then fromM ways i ways.length ++ [wid ways (i + 1) ways.length] else fromM ways i ways.length).map natV
theorem LevOk.toEnd {ways : List (List ByteArray)} {d : Nat} {ls : List Lev} (h : LevOk ways d (fun _ => ways.length) ls) : LevEnd ways d 0 ls := ⟨h.1, fun i l hl => by rw [if_neg (Nat.not_lt_zero _)]; exact h.2 i l hl⟩
theorem LevEnd.at {ways : List (List ByteArray)} {d k : Nat} {ls : List Lev} (h : LevEnd ways d k ls) (hk : k < d) : ∃ l, ls[k]? = some l ∧ l.ks = keysM ways k ways.length ∧ l.fs = (fromM ways k ways.length).map natV := by
  obtain ⟨l, hl⟩ : ∃ l, ls[k]? = some l := ⟨_, List.getElem?_eq_getElem (by rw [h.1]; exact hk)⟩
  have := h.2 k l hl
  rw [if_neg (Nat.lt_irrefl _)] at this
  exact ⟨l, hl, this⟩
theorem LevEnd.next {ways : List (List ByteArray)} {d k : Nat} {ls : List Lev} (h : LevEnd ways d k ls) (hw : Ways d ways) : (∀ l, ls[k + 1]? = some l → natV (wid ways (k + 1) ways.length) = (l.ks.length : Int)) ∧ (ls.length ≤ k + 1 → natV (wid ways (k + 1) ways.length) = (ways.length : Int)) := by
  refine ⟨fun l hl => ?_, fun hl => ?_⟩
  · rw [(h.2 _ l hl).1, keysM_len]
    rfl
  · rw [h.1] at hl
    rw [hw.wid_d (by omega) (Nat.le_refl _)]
    rfl
theorem LevEnd.push {ways : List (List ByteArray)} {d k : Nat} {ls : List Lev} {l : Lev} {fv : Value} (h : LevEnd ways d k ls) (hl : ls[k]? = some l) : LevEnd ways d (k + 1) (ls.set k { l with fv := fv, fs := l.fs ++ [natV (wid ways (k + 1) ways.length)] }) := ⟨by rw [List.length_set]; exact h.1, fun j a ha => by
  rcases Lev.get_set ha with ⟨rfl, rfl⟩ | ⟨hne, ha2⟩
  · obtain ⟨h1, h2⟩ := h.2 j l hl
    rw [if_neg (Nat.lt_irrefl _)] at h2
    rw [if_pos (Nat.lt_succ_self _), List.map_append]
    exact ⟨h1, by rw [h2]; rfl⟩
  · obtain ⟨h1, h2⟩ := h.2 j a ha2
    refine ⟨h1, ?_⟩
    rw [h2]
    by_cases h3 : j < k
    · rw [if_pos h3, if_pos (by omega)]
    · rw [if_neg h3, if_neg (by omega)]⟩
end Go.Proofs.YthjpfplebbnbpaaGreat
