/- How a cursor meets all ways, a plain law: steps are bounded. -/
import Derived.Test.YthjpfplebbnbpaaGreatCst
namespace Go.Proofs.YthjpfplebbnbpaaGreat
def qSum (g : Nat → Nat) : Nat → Nat
  | 0 => 0
  | n + 1 => qSum g n + g n
theorem qSum_congr {g h : Nat → Nat} {n : Nat} (e : ∀ i, i < n → g i = h i) : qSum g n = qSum h n := by
  induction n with
  | zero => rfl
  | succ n ih => rw [qSum, qSum, ih (fun i hi => e i (by omega)), e n (Nat.lt_succ_self n)]
theorem qSum_bump {g h : Nat → Nat} {n k : Nat} (hk : k < n) (e : ∀ i, i < n → i ≠ k → h i = g i) (e2 : h k = g k + 1) : qSum h n = qSum g n + 1 := by
  induction n with
  | zero => omega
  | succ n ih =>
    rw [qSum, qSum]
    by_cases hkn : k = n
    · subst hkn
      rw [e2, qSum_congr (fun i hi => e i (by omega) (by omega))]
      omega
    · rw [ih (by omega) (fun i hi hne => e i (by omega) hne), e n (Nat.lt_succ_self n) (fun h => hkn h.symm)]
      omega
theorem qSum_le {g : Nat → Nat} {n M : Nat} (h : ∀ i, i < n → g i ≤ M) : qSum g n ≤ n * M := by
  induction n with
  | zero => simp [qSum]
  | succ n ih =>
    rw [qSum, Nat.succ_mul]
    have h1 := ih (fun i hi => h i (by omega))
    have h2 := h n (Nat.lt_succ_self n)
    omega
/-- How many places of level i have been entered. -/
def qAt (ways : List (List ByteArray)) (pre : List (Nat × Nat)) (cur i : Nat) : Nat := match pre[i]? with
  | some s => s.1 + 1
  | none => wid ways i cur
def pot (d : Nat) (ways : List (List ByteArray)) (pre : List (Nat × Nat)) (cur : Nat) : Nat := qSum (qAt ways pre cur) d
/-- Where a cursor stands that meets all ways: cur ways are behind it. -/
structure DfsSt (d : Nat) (ways : List (List ByteArray)) (s : Nat) (sp : List (Nat × Nat)) (cur : Nat) : Prop where
  inv : (sp = [] ∧ cur = 0 ∧ s = 0) ∨ ∃ pre f t A B, sp = pre ++ [(f, t)] ∧ CurSt d ways sp A B ∧ cur = st ways pre.length f ∧ s + sp.length ≤ 2 * pot d ways pre cur + 2
theorem DfsSt.start (d : Nat) (ways : List (List ByteArray)) : DfsSt d ways 0 [] 0 := ⟨.inl ⟨rfl, rfl, rfl⟩⟩
theorem pot_le {d : Nat} {ways : List (List ByteArray)} {pre : List (Nat × Nat)} {f t A B : Nat} (h : CurSt d ways (pre ++ [(f, t)]) A B) (cur : Nat) (hc : cur ≤ ways.length) : pot d ways pre cur ≤ d * ways.length := by
  refine qSum_le fun i hi => ?_
  unfold qAt
  cases hp : pre[i]? with
  | none => exact Nat.le_trans (wid_mono ways i hc) (wid_le ways i _)
  | some s =>
    -- an entered place of an outer level
    have hne : pre ≠ [] := by rintro rfl; simp at hp
    rcases h.pop pre (f, t) rfl with e | ⟨pre0, f0, t0, A0, B0, e, hlt, h0, _⟩
    · exact absurd e hne
    · subst e
      have he : endB (pre0 ++ [(f0, t0)]) = false := by rw [endB_snoc]; simp; omega
      have hl : i < (pre0 ++ [(f0, t0)]).length := (List.getElem?_eq_some_iff.1 hp).1
      have key : ∀ {sp : List (Nat × Nat)} {A B : Nat}, CurSt d ways sp A B → endB sp = false → ∀ (i : Nat) (s : Nat × Nat), sp[i]? = some s → s.1 < wid ways i ways.length := by
        intro sp A B hsp
        induction hsp with
        | one f1 hd hN hf =>
          intro he i s hs
          have e2 : endB (([] : List (Nat × Nat)) ++ [(f1, wid ways 0 ways.length)]) = false := he
          rw [endB_snoc] at e2
          have hne : f1 ≠ wid ways 0 ways.length := by simpa using e2
          cases i with
          | zero => cases hs; show f1 < _; omega
          | succ i => simp at hs
        | more pre1 f1 t1 A1 B1 f2 h1 hlt1 hd h3 h4 ih =>
          intro he i s hs
          rw [endB_snoc] at he
          have hne : f2 ≠ wid ways (pre1.length + 1) (Go.Proofs.YthjpfplebbnbpaaGreat.st ways pre1.length (f1 + 1)) := by simpa using he
          by_cases hi : i < (pre1 ++ [(f1, t1)]).length
          · rw [List.getElem?_append_left hi] at hs
            exact ih (by rw [endB_snoc]; simp; omega) i s hs
          · have hl := (List.getElem?_eq_some_iff.1 hs).1
            rw [List.length_append, List.length_singleton] at hl
            have hi2 : i = (pre1 ++ [(f1, t1)]).length := by omega
            rw [List.getElem?_append_right (by omega), hi2, Nat.sub_self] at hs
            cases hs
            have hl2 : (pre1 ++ [(f1, t1)]).length = pre1.length + 1 := by simp
            rw [hi2, hl2]
            have := wid_mono ways (pre1.length + 1) (st_le ways pre1.length (f1 + 1))
            show f2 < _
            omega
      have := key h0 he i s hp
      have h5 := wid_le ways i ways.length
      show s.1 + 1 ≤ _
      omega
/-- The constants that a cursor is at are the way's. -/
theorem CurFacts.keys {d : Nat} {ways : List (List ByteArray)} (hw : Ways d ways) {pre : List (Nat × Nat)} {f t A B : Nat} (F : CurFacts d ways pre f t A B) (hft : f < t) : (wayAt ways (st ways pre.length f)).take (pre.length + 1) = keysOf ways (pre ++ [(f, t)]) ∧ st ways pre.length f < ways.length := by
  have hb := wid_mono ways pre.length F.seg.top
  have hj : f < wid ways pre.length ways.length := by have := F.top; omega
  have hs := st_spec ways pre.length f hj
  obtain ⟨p1, p2, _⟩ := F.seg.place F.ge (by have := F.top; omega)
  exact ⟨by rw [take_key hw hs.1 F.dep, F.seg.same _ p1 p2, F.pre, keysOf_snoc], hs.1⟩
theorem st_d {d : Nat} {ways : List (List ByteArray)} (hw : Ways d ways) {k f : Nat} (hk : d ≤ k + 1) (hf : f ≤ ways.length) : st ways k f = f := by
  have e := hw.wid_d (i := k) hk hf
  have hs : Stop ways k f := by
    rcases Nat.lt_or_ge f ways.length with h | h
    · exact .inr ⟨h, hw.fresh_d hk h⟩
    · exact .inl (by omega)
  have := st_wid ways k hs
  rwa [e] at this
/-- Open goes one level down. -/
theorem DfsSt.down {d : Nat} {ways : List (List ByteArray)} (hw : Ways d ways) {s cur : Nat} {pre : List (Nat × Nat)} {f t A B : Nat} (h : CurSt d ways (pre ++ [(f, t)]) A B) (hc : cur = st ways pre.length f) (hp : s + (pre ++ [(f, t)]).length ≤ 2 * pot d ways pre cur + 2) (hft : f < t) (hd : pre.length + 1 < d) : DfsSt d ways (s + 1) (pre ++ [(f, t)] ++ [belowS ways pre.length f]) cur := by
  have F := h.facts hw pre f t rfl
  have hb := wid_mono ways pre.length F.seg.top
  have hj : f < wid ways pre.length ways.length := by have := F.top; omega
  have hl : (pre ++ [(f, t)]).length = pre.length + 1 := by simp
  refine ⟨.inr ⟨pre ++ [(f, t)], _, _, _, _, rfl, .more pre f t A B _ h hft hd (Nat.le_refl _) (wid_mono ways _ (st_mono ways pre.length (Nat.le_succ f) hj)), ?_, ?_⟩⟩
  · rw [hl, hc]
    exact (st_wid ways (pre.length + 1) ((st_stop ways pre.length f).up (Nat.le_succ _))).symm
  · have e : pot d ways (pre ++ [(f, t)]) cur = pot d ways pre cur + 1 := by
      refine qSum_bump (k := pre.length) (by omega) (fun i hi hne => ?_) ?_
      · unfold qAt
        rcases Nat.lt_or_ge i pre.length with h1 | h1
        · rw [List.getElem?_append_left h1]
        · rw [List.getElem?_eq_none (l := pre) (by omega), List.getElem?_eq_none (by rw [hl]; omega)]
      · unfold qAt
        rw [List.getElem?_append_right (Nat.le_refl _), Nat.sub_self, List.getElem?_eq_none (l := pre) (Nat.le_refl _)]
        show f + 1 = wid ways pre.length cur + 1
        rw [hc, wid_st ways _ f (by omega)]
    rw [e, List.length_append, List.length_singleton]
    omega
theorem DfsSt.first {d : Nat} {ways : List (List ByteArray)} (hd : 0 < d) (hN : 0 < ways.length) : DfsSt d ways 1 [(0, wid ways 0 ways.length)] 0 :=
  ⟨.inr ⟨[], 0, _, _, _, rfl, .one 0 hd hN (Nat.zero_le _), (st_zero ways 0).symm, by show 1 + 1 ≤ _; omega⟩⟩
/-- At an end: one level up, and on. -/
theorem DfsSt.up {d : Nat} {ways : List (List ByteArray)} (hw : Ways d ways) {s cur : Nat} {pre0 : List (Nat × Nat)} {f0 t0 t A B : Nat} (h : CurSt d ways (pre0 ++ [(f0, t0)] ++ [(t, t)]) A B) (hc : cur = st ways (pre0 ++ [(f0, t0)]).length t) (hp : s + (pre0 ++ [(f0, t0)] ++ [(t, t)]).length ≤ 2 * pot d ways (pre0 ++ [(f0, t0)]) cur + 2) : DfsSt d ways (s + 1) (pre0 ++ [(f0 + 1, t0)]) cur ∧ f0 < t0 := by
  have F := h.facts hw _ t t rfl
  rcases h.pop (pre0 ++ [(f0, t0)]) (t, t) rfl with e | ⟨pre1, f1, t1, A0, B0, e, hlt, h0, eA, eB⟩
  · simp at e
  · obtain ⟨rfl, e2⟩ := snoc_inj e
    cases e2
    have F0 := h0.facts hw pre0 f0 t0 rfl
    have hb := wid_mono ways pre0.length F0.seg.top
    have hj : f0 < wid ways pre0.length ways.length := by have := F0.top; omega
    have hl : (pre0 ++ [(f0, t0)]).length = pre0.length + 1 := by simp
    have hcur : cur = st ways pre0.length (f0 + 1) := by
      rw [hc, F.top, hl, eB]
      exact st_wid ways (pre0.length + 1) ((st_stop ways pre0.length (f0 + 1)).up (Nat.le_succ _))
    refine ⟨⟨.inr ⟨pre0, f0 + 1, t0, A0, B0, rfl, h0.move pre0 f0 t0 (f0 + 1) rfl (by have := F0.ge; omega) hlt, hcur, ?_⟩⟩, hlt⟩
    have e : pot d ways (pre0 ++ [(f0, t0)]) cur = pot d ways pre0 cur := by
      refine qSum_congr fun i hi => ?_
      unfold qAt
      rcases Nat.lt_trichotomy i pre0.length with h1 | h1 | h1
      · rw [List.getElem?_append_left h1]
      · subst h1
        rw [List.getElem?_append_right (Nat.le_refl _), Nat.sub_self, List.getElem?_eq_none (l := pre0) (Nat.le_refl _)]
        show f0 + 1 = wid ways pre0.length cur
        rw [hcur, wid_st ways _ _ hj]
      · rw [List.getElem?_eq_none (l := pre0) (by omega), List.getElem?_eq_none (by rw [hl]; omega)]
    rw [e] at hp
    have l2 : (pre0 ++ [(f0 + 1, t0)]).length = pre0.length + 1 := by simp
    rw [List.length_append, List.length_singleton, hl] at hp
    rw [l2]
    omega
/-- At a way: on. -/
theorem DfsSt.on {d : Nat} {ways : List (List ByteArray)} (hw : Ways d ways) {s cur : Nat} {pre : List (Nat × Nat)} {f t A B : Nat} (h : CurSt d ways (pre ++ [(f, t)]) A B) (hc : cur = st ways pre.length f) (hp : s + (pre ++ [(f, t)]).length ≤ 2 * pot d ways pre cur + 2) (hft : f < t) (hd : d = pre.length + 1) : cur = f ∧ cur < ways.length ∧ keysOf ways (pre ++ [(f, t)]) = wayAt ways cur ∧ cntW ways pre.length f = 1 ∧ DfsSt d ways (s + 1) (pre ++ [(f + 1, t)]) (cur + 1) := by
  have F := h.facts hw pre f t rfl
  have hb := wid_mono ways pre.length F.seg.top
  have hj : f < wid ways pre.length ways.length := by have := F.top; omega
  have hN := wid_le ways pre.length ways.length
  have e1 := st_d hw (k := pre.length) (f := f) (by omega) (by omega)
  have e2 := st_d hw (k := pre.length) (f := f + 1) (by omega) (by omega)
  obtain ⟨k1, k2⟩ := F.keys hw hft
  rw [e1] at hc k1 k2
  subst hc
  refine ⟨rfl, k2, ?_, by unfold cntW; rw [e1, e2]; omega, ⟨.inr ⟨pre, _, t, A, B, rfl, h.move pre _ t _ rfl (by have := F.ge; omega) hft, e2.symm, ?_⟩⟩⟩
  · rw [← k1, List.take_of_length_le (by rw [(hw.at k2).2, hd]; exact Nat.le_refl _)]
  · have e : pot d ways pre (cur + 1) = pot d ways pre cur + 1 := by
      refine qSum_bump (k := pre.length) (by omega) (fun i hi hne => ?_) ?_
      · unfold qAt
        rw [show (pre[i]? : Option (Nat × Nat)) = some (pre[i]'(by omega)) from List.getElem?_eq_getElem (by omega)]
      · unfold qAt
        rw [List.getElem?_eq_none (l := pre) (Nat.le_refl _)]
        show wid ways pre.length (cur + 1) = wid ways pre.length cur + 1
        rw [hw.wid_d (by omega) k2, hw.wid_d (by omega) (Nat.le_of_lt k2)]
    have l1 : (pre ++ [(cur, t)]).length = pre.length + 1 := by simp
    have l2 : (pre ++ [(cur + 1, t)]).length = pre.length + 1 := by simp
    rw [l1] at hp
    rw [e, l2]
    omega
/-- At the end of the first level all ways are behind. -/
theorem CurSt.single {d : Nat} {ways : List (List ByteArray)} {sp : List (Nat × Nat)} {A B : Nat} (h : CurSt d ways sp A B) : ∀ s, sp = [s] → B = ways.length ∧ s.2 = wid ways 0 ways.length := by
  cases h with
  | one f hd hN hf => intro s e; cases e; exact ⟨rfl, rfl⟩
  | more pre f t A0 B0 f2 h0 hlt hd h1 h2 =>
    intro s e
    have := congrArg List.length e
    simp at this
theorem DfsSt.all {d : Nat} {ways : List (List ByteArray)} {cur t A B : Nat} (h : CurSt d ways [(t, t)] A B) (hc : cur = st ways 0 t) : cur = ways.length := by
  have e := (h.single _ rfl).2
  dsimp only at e
  rw [hc, e]
  exact st_end ways 0 _ (Nat.le_refl _)
/-- So many steps and no more. -/
theorem DfsSt.bound {d : Nat} {ways : List (List ByteArray)} {s cur : Nat} {sp : List (Nat × Nat)} (h : DfsSt d ways s sp cur) (hd : d ≤ 64) (hn : ways.length ≤ 400) : s < 100000 := by
  rcases h.inv with ⟨_, _, rfl⟩ | ⟨pre, f, t, A, B, rfl, hc, he, hp⟩
  · omega
  · have := pot_le hc cur (by rw [he]; exact st_le ways _ _)
    have h2 : d * ways.length ≤ 64 * 400 := Nat.mul_le_mul hd hn
    omega
end Go.Proofs.YthjpfplebbnbpaaGreat
