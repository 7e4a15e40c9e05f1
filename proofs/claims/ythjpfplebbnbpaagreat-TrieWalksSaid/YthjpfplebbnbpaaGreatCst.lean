/- Cursors, a plain law: where the spans of a cursor lie. -/
import Derived.Test.YthjpfplebbnbpaaGreatCnt
namespace Go.Proofs.YthjpfplebbnbpaaGreat
/-- The spans of a cursor; the last ranges over what the ways A to B have at its level. -/
inductive CurSt (d : Nat) (ways : List (List ByteArray)) : List (Nat × Nat) → Nat → Nat → Prop
  | one (f : Nat) : 0 < d → 0 < ways.length → f ≤ wid ways 0 ways.length → CurSt d ways [(f, wid ways 0 ways.length)] 0 ways.length
  | more (pre : List (Nat × Nat)) (f t A B f2 : Nat) : CurSt d ways (pre ++ [(f, t)]) A B → f < t → pre.length + 1 < d → wid ways (pre.length + 1) (st ways pre.length f) ≤ f2 → f2 ≤ wid ways (pre.length + 1) (st ways pre.length (f + 1)) → CurSt d ways (pre ++ [(f, t)] ++ [(f2, wid ways (pre.length + 1) (st ways pre.length (f + 1)))]) (st ways pre.length f) (st ways pre.length (f + 1))
/-- The constants that a cursor is at. -/
def keysOf (ways : List (List ByteArray)) (sp : List (Nat × Nat)) : List ByteArray := sp.mapIdx fun i s => keyAt ways i (st ways i s.1)
theorem keysOf_snoc (ways : List (List ByteArray)) (pre : List (Nat × Nat)) (s : Nat × Nat) : keysOf ways (pre ++ [s]) = keysOf ways pre ++ [keyAt ways pre.length (st ways pre.length s.1)] := by
  unfold keysOf
  rw [List.mapIdx_append]
  simp
theorem keysOf_len (ways : List (List ByteArray)) (sp : List (Nat × Nat)) : (keysOf ways sp).length = sp.length := by simp [keysOf]
theorem snoc_inj {α : Type} {a b : List α} {x y : α} (h : a ++ [x] = b ++ [y]) : a = b ∧ x = y := by
  have := List.append_inj' h rfl
  exact ⟨this.1, by simpa using this.2⟩
structure CurFacts (d : Nat) (ways : List (List ByteArray)) (pre : List (Nat × Nat)) (f t A B : Nat) : Prop where
  seg : Seg ways pre.length A B
  lt : A < B
  top : t = wid ways pre.length B
  ge : wid ways pre.length A ≤ f
  le : f ≤ t
  dep : pre.length < d
  pre : (wayAt ways A).take pre.length = keysOf ways pre
  pos : 0 < ways.length
theorem CurSt.facts {d : Nat} {ways : List (List ByteArray)} (hw : Ways d ways) {sp : List (Nat × Nat)} {A B : Nat} (h : CurSt d ways sp A B) : ∀ pre f t, sp = pre ++ [(f, t)] → CurFacts d ways pre f t A B := by
  induction h with
  | one f0 hd hN hf =>
    intro pre f t e
    have e2 : ([] : List (Nat × Nat)) ++ [(f0, wid ways 0 ways.length)] = pre ++ [(f, t)] := e
    obtain ⟨rfl, e3⟩ := snoc_inj e2
    cases e3
    exact ⟨seg_root ways, hN, rfl, Nat.zero_le _, hf, hd, by simp [keysOf], hN⟩
  | more pre0 f0 t0 A0 B0 f2 h0 hlt hd h1 h2 ih =>
    intro pre f t e
    obtain ⟨rfl, e3⟩ := snoc_inj e
    cases e3
    have F := ih pre0 f0 t0 rfl
    have hb := wid_mono ways pre0.length F.seg.top
    have hj : f0 < wid ways pre0.length ways.length := by have := F.top; omega
    have hl : (pre0 ++ [(f0, t0)]).length = pre0.length + 1 := by simp
    have hs := st_spec ways pre0.length f0 hj
    obtain ⟨p1, p2, _⟩ := F.seg.place F.ge (by have := F.top; omega)
    refine ⟨?_, st_lt ways pre0.length (Nat.lt_succ_self f0) hj, by rw [hl], by rw [hl]; exact h1, h2, by rw [hl]; exact hd, ?_, F.pos⟩
    · rw [hl]
      exact seg_below ways pre0.length f0 hj
    · rw [hl, take_key hw hs.1 F.dep, F.seg.same _ p1 p2, F.pre, keysOf_snoc]
theorem CurSt.ne {d : Nat} {ways : List (List ByteArray)} {sp : List (Nat × Nat)} {A B : Nat} (h : CurSt d ways sp A B) : sp ≠ [] := by
  induction h <;> simp
/-- What lies ahead of the last span. -/
theorem CurSt.pop {d : Nat} {ways : List (List ByteArray)} {sp : List (Nat × Nat)} {A B : Nat} (h : CurSt d ways sp A B) : ∀ pre s, sp = pre ++ [s] → pre = [] ∨ ∃ pre0 f t A0 B0, pre = pre0 ++ [(f, t)] ∧ f < t ∧ CurSt d ways pre A0 B0 ∧ A = st ways pre0.length f ∧ B = st ways pre0.length (f + 1) := by
  cases h with
  | one f0 hd hN hf =>
    intro pre s e
    have e2 : ([] : List (Nat × Nat)) ++ [(f0, wid ways 0 ways.length)] = pre ++ [s] := e
    exact .inl (snoc_inj e2).1.symm
  | more pre0 f0 t0 A0 B0 f2 h0 hlt hd h1 h2 =>
    intro pre s e
    obtain ⟨rfl, _⟩ := snoc_inj e
    exact .inr ⟨pre0, f0, t0, A0, B0, rfl, hlt, h0, rfl, rfl⟩
/-- The last span may begin elsewhere. -/
theorem CurSt.move {d : Nat} {ways : List (List ByteArray)} {sp : List (Nat × Nat)} {A B : Nat} (h : CurSt d ways sp A B) : ∀ pre f t f', sp = pre ++ [(f, t)] → wid ways pre.length A ≤ f' → f' ≤ t → CurSt d ways (pre ++ [(f', t)]) A B := by
  cases h with
  | one f0 hd hN hf =>
    intro pre f t f' e h1 h2
    have e2 : ([] : List (Nat × Nat)) ++ [(f0, wid ways 0 ways.length)] = pre ++ [(f, t)] := e
    obtain ⟨rfl, e3⟩ := snoc_inj e2
    cases e3
    exact .one f' hd hN h2
  | more pre0 f0 t0 A0 B0 f2 h0 hlt hd h3 h4 =>
    intro pre f t f' e h1 h2
    obtain ⟨rfl, e3⟩ := snoc_inj e
    cases e3
    have hl : (pre0 ++ [(f0, t0)]).length = pre0.length + 1 := by simp
    rw [hl] at h1
    exact .more pre0 f0 t0 A0 B0 f' h0 hlt hd h1 h2
/-- Is the last span at its end? -/
def endB (sp : List (Nat × Nat)) : Bool := match sp.getLast? with
  | some s => decide (s.1 = s.2)
  | none => false
theorem endB_nil : endB [] = false := rfl
theorem endB_snoc (pre : List (Nat × Nat)) (f t : Nat) : endB (pre ++ [(f, t)]) = decide (f = t) := by simp [endB]
/-- The span that Open lays. -/
def openS (ways : List (List ByteArray)) (sp : List (Nat × Nat)) : Nat × Nat := match sp.getLast? with
  | some s => (wid ways sp.length (st ways (sp.length - 1) s.1), wid ways sp.length (st ways (sp.length - 1) (s.1 + 1)))
  | none => (0, wid ways 0 ways.length)
theorem openS_nil (ways : List (List ByteArray)) : openS ways [] = (0, wid ways 0 ways.length) := rfl
theorem openS_snoc (ways : List (List ByteArray)) (pre : List (Nat × Nat)) (f t : Nat) : openS ways (pre ++ [(f, t)]) = (wid ways (pre.length + 1) (st ways pre.length f), wid ways (pre.length + 1) (st ways pre.length (f + 1))) := by simp [openS]
/-- A cursor's spans. -/
def CurOk (d : Nat) (ways : List (List ByteArray)) (sp : List (Nat × Nat)) : Prop := sp = [] ∨ ∃ A B, CurSt d ways sp A B
/-- May Open go on? -/
def mayOpen (d : Nat) (ways : List (List ByteArray)) (sp : List (Nat × Nat)) : Bool := !(endB sp) && !decide (sp.length = d) && !decide (ways.length = 0)
theorem CurOk.open_ok {d : Nat} {ways : List (List ByteArray)} (hw : Ways d ways) {sp : List (Nat × Nat)} (h : CurOk d ways sp) (hm : mayOpen d ways sp = true) : CurOk d ways (sp ++ [openS ways sp]) := by
  unfold mayOpen at hm
  simp only [Bool.and_eq_true, Bool.not_eq_true', decide_eq_false_iff_not] at hm
  obtain ⟨⟨h1, h2⟩, h3⟩ := hm
  rcases h with rfl | ⟨A, B, h⟩
  · refine .inr ⟨0, ways.length, ?_⟩
    have : 0 < d := by
      rcases Nat.eq_zero_or_pos d with e | e
      · subst e; exact absurd rfl h2
      · exact e
    exact .one 0 this (by omega) (Nat.zero_le _)
  · rcases sp.eq_nil_or_concat with rfl | ⟨pre, s, e⟩
    · exact absurd rfl h.ne
    · obtain ⟨f, t⟩ := s
      rw [List.concat_eq_append] at e
      subst e
      have F := h.facts hw pre f t rfl
      rw [endB_snoc] at h1
      have h1' : f ≠ t := by simpa using h1
      have hl : (pre ++ [(f, t)]).length = pre.length + 1 := by simp
      rw [hl] at h2
      have hlt : f < t := by have := F.le; omega
      rw [openS_snoc]
      exact .inr ⟨_, _, .more pre f t A B _ h hlt (by have := F.dep; omega) (Nat.le_refl _) (wid_mono ways _ (st_mono ways pre.length (Nat.le_succ f) (by have := F.top; have := wid_mono ways pre.length F.seg.top; omega)))⟩
end Go.Proofs.YthjpfplebbnbpaaGreat
