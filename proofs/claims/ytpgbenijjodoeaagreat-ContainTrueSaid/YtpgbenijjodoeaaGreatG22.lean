/- Tries, a plain law: the ways that begin alike lie side by side; a text's place among what follows. The walk of the trie's find. The walks of the trie's Count, Follow, Walk. Cursors, a plain law: where the spans of a cursor lie. A cursor in memory; the walks of Walk, last, At, AtEnd, Up, Next. -/
import Derived.Test.YtpgbenijjodoeaaGreatG21
namespace Go.Proofs.YtpgbenijjodoeaaGreat
/-- Ways A to B begin alike in their first i constants; so no other way does that lies beside them. -/
structure Seg (ways : List (List ByteArray)) (i A B : Nat) : Prop where
  le : A ≤ B
  top : B ≤ ways.length
  sa : Stop ways i A
  sb : Stop ways i B
  same : ∀ m, A ≤ m → m < B → (wayAt ways m).take i = (wayAt ways A).take i
theorem seg_root (ways : List (List ByteArray)) : Seg ways 0 0 ways.length := ⟨Nat.zero_le _, Nat.le_refl _, by
    rcases Nat.eq_zero_or_pos ways.length with h | h
    · exact .inl h.symm
    · exact .inr ⟨h, rfl⟩, .inl rfl, fun m _ _ => rfl⟩
theorem seg_below (ways : List (List ByteArray)) (i j : Nat) (hj : j < wid ways i ways.length) : Seg ways (i + 1) (st ways i j) (st ways i (j + 1)) :=
  ⟨st_mono ways i (Nat.le_succ j) hj, st_le ways i _, (st_stop ways i j).up (Nat.le_succ i), (st_stop ways i (j + 1)).up (Nat.le_succ i), fun m h1 h2 => (in_node ways i j m hj h1 h2).2⟩
theorem Seg.place {ways : List (List ByteArray)} {i A B : Nat} (h : Seg ways i A B) {p : Nat} (h1 : wid ways i A ≤ p) (h2 : p < wid ways i B) : A ≤ st ways i p ∧ st ways i p < B ∧ p < wid ways i ways.length := by
  have hb := wid_mono ways i h.top
  have e1 := st_wid ways i h.sa
  have e2 := st_wid ways i h.sb
  have m1 := st_mono ways i h1 (by omega)
  have m2 := st_lt ways i h2 hb
  rw [e1] at m1
  rw [e2] at m2
  exact ⟨m1, m2, by omega⟩
theorem nd_st (ways : List (List ByteArray)) (i p : Nat) (h : p < wid ways i ways.length) : nd ways i (st ways i p) = p := by
  have := st_spec ways i p h
  have h2 := wid_succ ways i (st ways i p)
  rw [if_pos this.2.1, this.2.2] at h2
  unfold nd
  omega
theorem Seg.ndIn {ways : List (List ByteArray)} {i A B : Nat} (h : Seg ways i A B) {m : Nat} (h1 : A ≤ m) (h2 : m < B) : wid ways i A ≤ nd ways i m ∧ nd ways i m < wid ways i B := by
  have hm : m < ways.length := Nat.lt_of_lt_of_le h2 h.top
  obtain ⟨a1, a2, a3, a4⟩ := nd_spec ways i m hm
  have b2 := wid_mono ways i (show m + 1 ≤ B by omega)
  have b1 : wid ways i A + 1 ≤ wid ways i (m + 1) := by
    have := wid_mono ways i (show A + 1 ≤ m + 1 by omega)
    have h3 := wid_succ ways i A
    rcases h.sa with e | ⟨_, e⟩
    · omega
    · rw [if_pos e] at h3
      omega
  omega
theorem take_key {d : Nat} {ways : List (List ByteArray)} (h : Ways d ways) {i m : Nat} (hm : m < ways.length) (hi : i < d) : (wayAt ways m).take (i + 1) = (wayAt ways m).take i ++ [keyAt ways i m] := by
  have hl := (h.at hm).2
  obtain ⟨x, hx⟩ : ∃ x, (wayAt ways m)[i]? = some x := ⟨_, List.getElem?_eq_getElem (by omega)⟩
  rw [take_at hx]
  unfold keyAt
  rw [hx]
  rfl
theorem key_nd {d : Nat} {ways : List (List ByteArray)} (h : Ways d ways) {i m : Nat} (hm : m < ways.length) (hi : i < d) : keyAt ways i (st ways i (nd ways i m)) = keyAt ways i m := by
  obtain ⟨a1, a2, a3, a4⟩ := nd_spec ways i m hm
  have e := (in_node ways i _ m a2 a3 a4).2
  have hs := (st_spec ways i _ a2).1
  rw [take_key h hm hi, take_key h hs hi] at e
  have := (List.append_inj' e rfl).2
  simpa using this.symm
theorem Seg.rise {d : Nat} {ways : List (List ByteArray)} (hw : Ways d ways) {i A B : Nat} (h : Seg ways i A B) (hi : i < d) {p q : Nat} (h1 : wid ways i A ≤ p) (hpq : p < q) (h2 : q < wid ways i B) : ltB (keyAt ways i (st ways i p)) (keyAt ways i (st ways i q)) = true := by
  obtain ⟨a1, a2, a3⟩ := h.place h1 (by omega : p < wid ways i B)
  obtain ⟨b1, b2, b3⟩ := h.place (by omega : wid ways i A ≤ q) h2
  have hlt := st_lt ways i hpq (by omega)
  have hq := Nat.lt_of_lt_of_le b2 h.top
  refine hw.key_lt hi hlt hq ((h.same _ a1 a2).trans (h.same _ b1 b2).symm) (fun e => ?_)
  have := (hw.nd_iff (by omega) hq).1 e
  rw [nd_st ways i p a3, nd_st ways i q b3] at this
  omega
/-- What seek asks of the keys. -/
theorem Seg.cut {d : Nat} {ways : List (List ByteArray)} (hw : Ways d ways) {i A B : Nat} (h : Seg ways i A B) (hi : i < d) (x : ByteArray) {f : Nat} (hf : wid ways i A ≤ f) : ∀ p q a b, f ≤ p → p ≤ q → q < wid ways i B → (keysM ways i ways.length)[p]? = some a → (keysM ways i ways.length)[q]? = some b → ltB b x = true → ltB a x = true := by
  intro p q a b hp hpq hq ha hb hlt
  rcases Nat.lt_or_ge p q with h1 | h1
  · have w1 := wid_mono ways i h.top
    rw [keysM_at ways i p (by omega)] at ha
    rw [keysM_at ways i q (by omega)] at hb
    cases ha
    cases hb
    exact lt_trans (h.rise hw hi (by omega) h1 hq) hlt
  · obtain rfl : p = q := by omega
    rw [ha] at hb
    cases hb
    exact hlt
/-- A text's place in the span of a beginning: there, or no way goes on so. -/
theorem Seg.seek {d : Nat} {ways : List (List ByteArray)} (hw : Ways d ways) {i A B : Nat} (h : Seg ways i A B) (hi : i < d) (x : ByteArray) : wid ways i A ≤ skP (keysM ways i ways.length) (wid ways i A) (wid ways i B) x ∧ skP (keysM ways i ways.length) (wid ways i A) (wid ways i B) x ≤ wid ways i B ∧ ∀ m, A ≤ m → m < B → keyAt ways i m = x → skP (keysM ways i ways.length) (wid ways i A) (wid ways i B) x = nd ways i m := by
  have hb := wid_mono ways i h.top
  obtain ⟨s1, s2, s3, s4⟩ := skP_spec (ks := keysM ways i ways.length) x (wid_mono ways i h.le) (by rw [keysM_len]; exact hb)
  refine ⟨s1, s2, fun m h1 h2 hx => ?_⟩
  have hm := Nat.lt_of_lt_of_le h2 h.top
  obtain ⟨n1, n2⟩ := h.ndIn h1 h2
  have kx := key_nd hw hm hi
  rw [hx] at kx
  rcases Nat.lt_trichotomy (skP (keysM ways i ways.length) (wid ways i A) (wid ways i B) x) (nd ways i m) with hc | hc | hc
  · have g := s4 (by omega) _ (keysM_at ways i _ (by omega))
    have r := h.rise hw hi s1 hc n2
    rw [kx, g] at r
    cases r
  · exact hc
  · have g := s3 (nd ways i m) _ n1 hc (keysM_at ways i _ (by omega))
    rw [kx] at g
    exact absurd g (lt_irr x)
end Go.Proofs.YtpgbenijjodoeaaGreat
namespace Go.Proofs.YtpgbenijjodoeaaGreat
open Go.ChangeShapes Go.WideShapes Go.ChangeAt Go.RowKit
/-- The first i constants of a beginning have been met: through place p of the level ahead go the ways A to B. -/
structure FindSt (ways : List (List ByteArray)) (b : List ByteArray) (i p A B : Nat) : Prop where
  seg : Seg ways i A B
  lt : A < B
  pre : (wayAt ways A).take i = b.take i
  all : ∀ m, m < ways.length → (wayAt ways m).take i = b.take i → A ≤ m ∧ m < B
  zero : i = 0 → p = 0 ∧ A = 0 ∧ B = ways.length
  pos : 0 < i → p < wid ways (i - 1) ways.length ∧ A = st ways (i - 1) p ∧ B = st ways (i - 1) (p + 1)
theorem FindSt.start {ways : List (List ByteArray)} (b : List ByteArray) (h : 0 < ways.length) : FindSt ways b 0 0 0 ways.length := ⟨seg_root ways, h, rfl, fun _ hm _ => ⟨Nat.zero_le _, hm⟩, fun _ => ⟨rfl, rfl, rfl⟩, fun h => absurd h (Nat.lt_irrefl _)⟩
theorem FindSt.pre_at {ways : List (List ByteArray)} {b : List ByteArray} {i p A B : Nat} (h : FindSt ways b i p A B) {m : Nat} (h1 : A ≤ m) (h2 : m < B) : (wayAt ways m).take i = b.take i := (h.seg.same m h1 h2).trans h.pre
theorem FindSt.yes {d : Nat} {ways : List (List ByteArray)} {b : List ByteArray} {i p A B r : Nat} {x : ByteArray} (hw : Ways d ways) (h : FindSt ways b i p A B) (hi : i < d) (hx : b[i]? = some x) (h1 : wid ways i A ≤ r) (h2 : r < wid ways i B) (hk : keyAt ways i (st ways i r) = x) : FindSt ways b (i + 1) r (st ways i r) (st ways i (r + 1)) := by
  obtain ⟨a1, a2, a3⟩ := h.seg.place h1 h2
  have hs := st_spec ways i r a3
  have hp : (wayAt ways (st ways i r)).take (i + 1) = b.take (i + 1) := by
    rw [take_key hw hs.1 hi, take_at hx, h.pre_at a1 a2, hk]
  refine ⟨seg_below ways i r a3, st_lt ways i (Nat.lt_succ_self r) a3, hp, fun m hm he => ?_, fun h => absurd h (Nat.succ_ne_zero i), fun _ => ⟨a3, rfl, rfl⟩⟩
  have e := (hw.nd_iff (i := i) hm hs.1).1 (he.trans hp.symm)
  rw [nd_st ways i r a3] at e
  obtain ⟨_, _, b3, b4⟩ := nd_spec ways i m hm
  rw [e] at b3 b4
  exact ⟨b3, b4⟩
theorem FindSt.no {d : Nat} {ways : List (List ByteArray)} {b : List ByteArray} {i p A B : Nat} {x : ByteArray} (hw : Ways d ways) (h : FindSt ways b i p A B) (hi : i < d) (hx : b[i]? = some x) (hn : skP (keysM ways i ways.length) (wid ways i A) (wid ways i B) x < wid ways i B → keyAt ways i (st ways i (skP (keysM ways i ways.length) (wid ways i A) (wid ways i B) x)) ≠ x) : ∀ m, m < ways.length → (wayAt ways m).take (i + 1) ≠ b.take (i + 1) := by
  intro m hm he
  obtain ⟨a1, a2⟩ := h.all m hm (take_down he (Nat.le_succ i))
  rw [take_key hw hm hi, take_at hx] at he
  have hk : keyAt ways i m = x := by simpa using (List.append_inj' he rfl).2
  have hs := (h.seg.seek hw hi x).2.2 m a1 a2 hk
  obtain ⟨_, n2⟩ := h.seg.ndIn a1 a2
  have kn := key_nd hw hm hi
  refine hn (by omega) ?_
  rw [hs, kn, hk]
end Go.Proofs.YtpgbenijjodoeaaGreat
namespace Go.Proofs.YtpgbenijjodoeaaGreat
open Go.ChangeShapes Go.WideShapes Go.ChangeAt Go.RowKit
theorem filter_span {α : Type} (p : α → Bool) : ∀ (l : List α) (A B : Nat), A ≤ B → B ≤ l.length → (∀ m x, l[m]? = some x → (p x = true ↔ A ≤ m ∧ m < B)) → (l.filter p).length = B - A
  | [], A, B, h1, h2, _ => by simp at h2; simp; omega
  | a :: l, A, B, h1, h2, h => by
    have h0 := h 0 a rfl
    cases B with
    | zero =>
      have hp : ¬ p a = true := fun e => by have := h0.1 e; omega
      rw [List.filter_cons_of_neg hp, filter_span p l 0 0 (Nat.le_refl _) (Nat.zero_le _) (fun m x hx => by rw [h (m + 1) x hx]; omega)]
      omega
    | succ B =>
      rw [List.length_cons] at h2
      cases A with
      | zero =>
        have hp : p a = true := h0.2 ⟨Nat.le_refl _, by omega⟩
        rw [List.filter_cons_of_pos hp, List.length_cons, filter_span p l 0 B (Nat.zero_le _) (by omega) (fun m x hx => by rw [h (m + 1) x hx]; omega)]
        omega
      | succ A =>
        have hp : ¬ p a = true := fun e => by have := h0.1 e; omega
        rw [List.filter_cons_of_neg hp, filter_span p l A B (by omega) (by omega) (fun m x hx => by rw [h (m + 1) x hx]; omega)]
        omega
/-- How many ways begin so. -/
def countP (ways : List (List ByteArray)) (b : List ByteArray) : Nat := (ways.filter fun r => decide (r.take b.length = b)).length
theorem wayAt_get {ways : List (List ByteArray)} {m : Nat} {x : List ByteArray} (h : ways[m]? = some x) : wayAt ways m = x := by unfold wayAt; rw [h]; rfl
theorem FindSt.count {ways : List (List ByteArray)} {b : List ByteArray} {p A B : Nat} (h : FindSt ways b b.length p A B) : countP ways b = B - A := by
  refine filter_span _ ways A B h.seg.le h.seg.top (fun m x hx => ?_)
  have e := wayAt_get hx
  have hm := (List.getElem?_eq_some_iff.1 hx).1
  rw [decide_eq_true_eq, ← e]
  have hb : b.take b.length = b := List.take_length
  constructor
  · intro h1
    exact h.all m hm (by rw [hb]; exact h1)
  · intro ⟨h1, h2⟩
    have := h.pre_at h1 h2
    rwa [hb] at this
/-- The keys of what follows where ways A to B begin alike. -/
def segKeys (ways : List (List ByteArray)) (k A B : Nat) : List ByteArray := ((keysM ways k ways.length).drop (wid ways k A)).take (wid ways k B - wid ways k A)
/-- What follows a beginning. -/
def FolIs (d : Nat) (ways : List (List ByteArray)) (b xs : List ByteArray) : Prop := (∃ p A B, b.length < d ∧ FindSt ways b b.length p A B ∧ xs = segKeys ways b.length A B) ∨ ((d ≤ b.length ∨ ∀ m, m < ways.length → (wayAt ways m).take b.length ≠ b) ∧ xs = [])
end Go.Proofs.YtpgbenijjodoeaaGreat
namespace Go.Proofs.YtpgbenijjodoeaaGreat
/-- The spans of a cursor; the last ranges over what the ways A to B have at its level. -/
inductive CurSt (d : Nat) (ways : List (List ByteArray)) : List (Nat × Nat) → Nat → Nat → Prop
  | one (f : Nat) : 0 < d → 0 < ways.length → f ≤ wid ways 0 ways.length → CurSt d ways [(f, wid ways 0 ways.length)] 0 ways.length
  | more (pre : List (Nat × Nat)) (f t A B f2 : Nat) : CurSt d ways (pre ++ [(f, t)]) A B → f < t → pre.length + 1 < d → wid ways (pre.length + 1) (st ways pre.length f) ≤ f2 → f2 ≤ wid ways (pre.length + 1) (st ways pre.length (f + 1)) → CurSt d ways (pre ++ [(f, t)] ++ [(f2, wid ways (pre.length + 1) (st ways pre.length (f + 1)))]) (st ways pre.length f) (st ways pre.length (f + 1))
/-- The constants that a cursor is at. -/
def keysOf (ways : List (List ByteArray)) (sp : List (Nat × Nat)) : List ByteArray := sp.mapIdx fun i s => keyAt ways i (st ways i s.1)
theorem keysOf_snoc (ways : List (List ByteArray)) (pre : List (Nat × Nat)) (s : Nat × Nat) : keysOf ways (pre ++ [s]) = keysOf ways pre ++ [keyAt ways pre.length (st ways pre.length s.1)] := by
  unfold keysOf
  rw [List.mapIdx_append]
  simp
theorem keysOf_len (ways : List (List ByteArray)) (sp : List (Nat × Nat)) : (keysOf ways sp).length = sp.length := by simp [keysOf]
theorem snoc_inj {α : Type} {a b : List α} {x y : α} (h : a ++ [x] = b ++ [y]) : a = b ∧ x = y := by
  have := List.append_inj' h rfl
  exact ⟨this.1, by simpa using this.2⟩
structure CurFacts (d : Nat) (ways : List (List ByteArray)) (pre : List (Nat × Nat)) (f t A B : Nat) : Prop where
  seg : Seg ways pre.length A B
  lt : A < B
  top : t = wid ways pre.length B
  ge : wid ways pre.length A ≤ f
  le : f ≤ t
  dep : pre.length < d
  pre : (wayAt ways A).take pre.length = keysOf ways pre
  pos : 0 < ways.length
theorem CurSt.facts {d : Nat} {ways : List (List ByteArray)} (hw : Ways d ways) {sp : List (Nat × Nat)} {A B : Nat} (h : CurSt d ways sp A B) : ∀ pre f t, sp = pre ++ [(f, t)] → CurFacts d ways pre f t A B := by
  induction h with
  | one f0 hd hN hf =>
    intro pre f t e
    have e2 : ([] : List (Nat × Nat)) ++ [(f0, wid ways 0 ways.length)] = pre ++ [(f, t)] := e
    obtain ⟨rfl, e3⟩ := snoc_inj e2
    cases e3
    exact ⟨seg_root ways, hN, rfl, Nat.zero_le _, hf, hd, by simp [keysOf], hN⟩
  | more pre0 f0 t0 A0 B0 f2 h0 hlt hd h1 h2 ih =>
    intro pre f t e
    obtain ⟨rfl, e3⟩ := snoc_inj e
    cases e3
    have F := ih pre0 f0 t0 rfl
    have hb := wid_mono ways pre0.length F.seg.top
    have hj : f0 < wid ways pre0.length ways.length := by have := F.top; omega
    have hl : (pre0 ++ [(f0, t0)]).length = pre0.length + 1 := by simp
    have hs := st_spec ways pre0.length f0 hj
    obtain ⟨p1, p2, _⟩ := F.seg.place F.ge (by have := F.top; omega)
    refine ⟨?_, st_lt ways pre0.length (Nat.lt_succ_self f0) hj, by rw [hl], by rw [hl]; exact h1, h2, by rw [hl]; exact hd, ?_, F.pos⟩
    · rw [hl]
      exact seg_below ways pre0.length f0 hj
    · rw [hl, take_key hw hs.1 F.dep, F.seg.same _ p1 p2, F.pre, keysOf_snoc]
theorem CurSt.ne {d : Nat} {ways : List (List ByteArray)} {sp : List (Nat × Nat)} {A B : Nat} (h : CurSt d ways sp A B) : sp ≠ [] := by
  induction h <;> simp
/-- What lies ahead of the last span. -/
theorem CurSt.pop {d : Nat} {ways : List (List ByteArray)} {sp : List (Nat × Nat)} {A B : Nat} (h : CurSt d ways sp A B) : ∀ pre s, sp = pre ++ [s] → pre = [] ∨ ∃ pre0 f t A0 B0, pre = pre0 ++ [(f, t)] ∧ f < t ∧ CurSt d ways pre A0 B0 ∧ A = st ways pre0.length f ∧ B = st ways pre0.length (f + 1) := by
  cases h with
  | one f0 hd hN hf =>
    intro pre s e
    have e2 : ([] : List (Nat × Nat)) ++ [(f0, wid ways 0 ways.length)] = pre ++ [s] := e
    exact .inl (snoc_inj e2).1.symm
  | more pre0 f0 t0 A0 B0 f2 h0 hlt hd h1 h2 =>
    intro pre s e
    obtain ⟨rfl, _⟩ := snoc_inj e
    exact .inr ⟨pre0, f0, t0, A0, B0, rfl, hlt, h0, rfl, rfl⟩
/-- The last span may begin elsewhere. -/
theorem CurSt.move {d : Nat} {ways : List (List ByteArray)} {sp : List (Nat × Nat)} {A B : Nat} (h : CurSt d ways sp A B) : ∀ pre f t f', sp = pre ++ [(f, t)] → wid ways pre.length A ≤ f' → f' ≤ t → CurSt d ways (pre ++ [(f', t)]) A B := by
  cases h with
  | one f0 hd hN hf =>
    intro pre f t f' e h1 h2
    have e2 : ([] : List (Nat × Nat)) ++ [(f0, wid ways 0 ways.length)] = pre ++ [(f, t)] := e
    obtain ⟨rfl, e3⟩ := snoc_inj e2
    cases e3
    exact .one f' hd hN h2
  | more pre0 f0 t0 A0 B0 f2 h0 hlt hd h3 h4 =>
    intro pre f t f' e h1 h2
    obtain ⟨rfl, e3⟩ := snoc_inj e
    cases e3
    have hl : (pre0 ++ [(f0, t0)]).length = pre0.length + 1 := by simp
    rw [hl] at h1
    exact .more pre0 f0 t0 A0 B0 f' h0 hlt hd h1 h2
/-- Is the last span at its end? -/
def endB (sp : List (Nat × Nat)) : Bool := match sp.getLast? with
  | some s => decide (s.1 = s.2)
  | none => false
theorem endB_nil : endB [] = false := rfl
theorem endB_snoc (pre : List (Nat × Nat)) (f t : Nat) : endB (pre ++ [(f, t)]) = decide (f = t) := by simp [endB]
/-- The span that Open lays. -/
def openS (ways : List (List ByteArray)) (sp : List (Nat × Nat)) : Nat × Nat := match sp.getLast? with
  | some s => (wid ways sp.length (st ways (sp.length - 1) s.1), wid ways sp.length (st ways (sp.length - 1) (s.1 + 1)))
  | none => (0, wid ways 0 ways.length)
theorem openS_nil (ways : List (List ByteArray)) : openS ways [] = (0, wid ways 0 ways.length) := rfl
theorem openS_snoc (ways : List (List ByteArray)) (pre : List (Nat × Nat)) (f t : Nat) : openS ways (pre ++ [(f, t)]) = (wid ways (pre.length + 1) (st ways pre.length f), wid ways (pre.length + 1) (st ways pre.length (f + 1))) := by simp [openS]
/-- A cursor's spans. -/
def CurOk (d : Nat) (ways : List (List ByteArray)) (sp : List (Nat × Nat)) : Prop := sp = [] ∨ ∃ A B, CurSt d ways sp A B
/-- May Open go on? -/
def mayOpen (d : Nat) (ways : List (List ByteArray)) (sp : List (Nat × Nat)) : Bool := !(endB sp) && !decide (sp.length = d) && !decide (ways.length = 0)
theorem CurOk.open_ok {d : Nat} {ways : List (List ByteArray)} (hw : Ways d ways) {sp : List (Nat × Nat)} (h : CurOk d ways sp) (hm : mayOpen d ways sp = true) : CurOk d ways (sp ++ [openS ways sp]) := by
  unfold mayOpen at hm
  simp only [Bool.and_eq_true, Bool.not_eq_true', decide_eq_false_iff_not] at hm
  obtain ⟨⟨h1, h2⟩, h3⟩ := hm
  rcases h with rfl | ⟨A, B, h⟩
  · refine .inr ⟨0, ways.length, ?_⟩
    have : 0 < d := by
      rcases Nat.eq_zero_or_pos d with e | e
      · subst e; exact absurd rfl h2
      · exact e
    exact .one 0 this (by omega) (Nat.zero_le _)
  · rcases sp.eq_nil_or_concat with rfl | ⟨pre, s, e⟩
    · exact absurd rfl h.ne
    · obtain ⟨f, t⟩ := s
      rw [List.concat_eq_append] at e
      subst e
      have F := h.facts hw pre f t rfl
      rw [endB_snoc] at h1
      have h1' : f ≠ t := by simpa using h1
      have hl : (pre ++ [(f, t)]).length = pre.length + 1 := by simp
      rw [hl] at h2
      have hlt : f < t := by have := F.le; omega
      rw [openS_snoc]
      exact .inr ⟨_, _, .more pre f t A B _ h hlt (by have := F.dep; omega) (Nat.le_refl _) (wid_mono ways _ (st_mono ways pre.length (Nat.le_succ f) (by have := F.top; have := wid_mono ways pre.length F.seg.top; omega)))⟩
end Go.Proofs.YtpgbenijjodoeaaGreat
namespace Go.Proofs.YtpgbenijjodoeaaGreat
open Go.ChangeShapes Go.WideShapes Go.ChangeAt Go.RowKit
def spV (sp : List (Nat × Nat)) : List Value := sp.flatMap fun s => [.int .i64 (s.1 : Nat), .int .i64 (s.2 : Nat)]
theorem spV_len (sp : List (Nat × Nat)) : (spV sp).length = sp.length * 2 := by
  induction sp with
  | nil => rfl
  | cons s sp ih => unfold spV at *; rw [List.flatMap_cons, List.length_append, ih, List.length_cons]; simp; omega
theorem spV_snoc (pre : List (Nat × Nat)) (s : Nat × Nat) : spV (pre ++ [s]) = spV pre ++ [.int .i64 (s.1 : Nat), .int .i64 (s.2 : Nat)] := by simp [spV]
theorem spV_at (sp : List (Nat × Nat)) (i : Nat) (s : Nat × Nat) (h : sp[i]? = some s) : (spV sp)[i * 2]? = some (.int .i64 (s.1 : Nat)) ∧ (spV sp)[i * 2 + 1]? = some (.int .i64 (s.2 : Nat)) := by
  induction sp generalizing i with
  | nil => simp at h
  | cons a sp ih =>
    unfold spV at *
    cases i with
    | zero =>
      rw [List.getElem?_cons_zero] at h
      cases h
      simp
    | succ i =>
      rw [List.getElem?_cons_succ] at h
      have := ih i h
      rw [show (i + 1) * 2 = i * 2 + 1 + 1 by omega]
      simpa using this
/-- The cursor at block pc, in the trie at pt: its spans lie in a row of its own, in block rb. -/
structure CurV (w : World) (lo pc pt : Nat) (rb : Option Nat) (sp : List (Nat × Nat)) : Prop where
  top : ∃ a c, w.heap[pc]? = some (.cells #[.pointer (some ⟨pt, 0, none⟩), .slice a sp.length c] 175 (0, 0)) ∧ w.ownsRow lo 192 2 (.slice a sp.length c) sp.length (spV sp) ∧ (Value.slice a sp.length c).ownBlock = rb
  lo : lo ≤ pc
theorem CurV.cells {w : World} {lo pc pt : Nat} {rb : Option Nat} {sp : List (Nat × Nat)} (h : CurV w lo pc pt rb sp) : ∃ a c, w.cell? ⟨pc, 0, none⟩ = some (.pointer (some ⟨pt, 0, none⟩)) ∧ w.cell? ⟨pc, 1, none⟩ = some (.slice a sp.length c) ∧ w.frozen? ⟨pc, 1, none⟩ = false ∧ pc < w.heap.size ∧ sp.length ≤ c := by
  obtain ⟨⟨a, c, h1, h2, h3⟩, _⟩ := h
  refine ⟨a, c, by simp [World.cell?, h1], by simp [World.cell?, h1], by simp [World.frozen?, h1], (Array.getElem?_eq_some_iff.1 h1).1, ?_⟩
  exact (cap_of_own h2).1
theorem CurV.ne {w : World} {lo pc pt : Nat} {rb : Option Nat} {sp : List (Nat × Nat)} (h : CurV w lo pc pt rb sp) {g : Nat} (hg : rb = some g) : g ≠ pc ∧ lo ≤ g ∧ g < w.heap.size := by
  obtain ⟨⟨a, c, h1, h2, h3⟩, _⟩ := h
  rw [hg] at h3
  obtain ⟨l1, l2⟩ := h2.lt g h3
  refine ⟨?_, l1, l2⟩
  rcases h2.2 with ⟨e, _⟩ | ⟨g', c', cur, e, _, hg', _⟩
  · rw [e] at h3; cases h3
  · rw [e] at h3
    cases h3
    rintro rfl
    rw [h1] at hg'
    cases hg'
theorem CurV.last {w : World} {lo pc pt : Nat} {rb : Option Nat} {pre : List (Nat × Nat)} {f t : Nat} (h : CurV w lo pc pt rb (pre ++ [(f, t)])) : ∃ g c, rb = some g ∧ w.cell? ⟨pc, 0, none⟩ = some (.pointer (some ⟨pt, 0, none⟩)) ∧ w.cell? ⟨pc, 1, none⟩ = some (.slice (some ⟨g, 0, none⟩) (pre.length + 1) c) ∧ w.frozen? ⟨pc, 1, none⟩ = false ∧ pre.length + 1 ≤ c ∧ w.cell? ⟨g, pre.length * 2, none⟩ = some (.int .i64 (f : Nat)) ∧ w.cell? ⟨g, pre.length * 2 + 1, none⟩ = some (.int .i64 (t : Nat)) ∧ w.frozen? ⟨g, pre.length * 2, none⟩ = false ∧ c ≤ maxLen := by
  obtain ⟨⟨a, c, h1, h2, h3⟩, _⟩ := h
  have hl : (pre ++ [(f, t)]).length = pre.length + 1 := by simp
  rw [hl] at h1 h2 h3
  rcases h2.2 with ⟨e, e2⟩ | ⟨g, c', cur, e, hb, hg, hnc, hcm, hcs, ht⟩
  · omega
  · cases e
    obtain ⟨s1, s2⟩ := spV_at (pre ++ [(f, t)]) pre.length (f, t) (by simp)
    have c1 := h2.cells (g := g) rfl _ _ s1
    have c2 := h2.cells (g := g) rfl _ _ s2
    rw [Addr.add_lit, Nat.zero_add] at c1 c2
    exact ⟨g, c, h3.symm, by simp [World.cell?, h1], by simp [World.cell?, h1], by simp [World.frozen?, h1], hnc, c1, c2, by simp [World.frozen?, hg], hcm⟩
theorem CurV.ext {w w' : World} {lo pc pt : Nat} {rb : Option Nat} {sp : List (Nat × Nat)} (h : CurV w lo pc pt rb sp) (e : Ext w w') : CurV w' lo pc pt rb sp := by
  obtain ⟨⟨a, c, h1, h2, h3⟩, h4⟩ := h
  exact ⟨⟨a, c, (e.block pc (Array.getElem?_eq_some_iff.1 h1).1).trans h1, up_ext h2 e, h3⟩, h4⟩
/-- The blocks of a cursor. -/
def CurB (pc : Nat) (rb : Option Nat) (b : Nat) : Prop := b = pc ∨ rb = some b
theorem CurV.buts {w w' : World} {lo pc pt : Nat} {rb : Option Nat} {sp : List (Nat × Nat)} {S : Nat → Prop} (h : CurV w lo pc pt rb sp) (e : ButS S w w') (hs : ∀ b, CurB pc rb b → ¬ S b) : CurV w' lo pc pt rb sp := by
  obtain ⟨⟨a, c, h1, h2, h3⟩, h4⟩ := h
  exact ⟨⟨a, c, (e.block pc (Array.getElem?_eq_some_iff.1 h1).1 (hs pc (.inl rfl))).trans h1, e.own h2 (fun b hb => hs b (.inr (by rw [← h3]; exact hb))), h3⟩, h4⟩
/-- The last span's beginning is written. -/
theorem CurV.move {w : World} {lo pc pt g : Nat} {pre : List (Nat × Nat)} {f t : Nat} (h : CurV w lo pc pt (some g) (pre ++ [(f, t)])) (f' : Nat) : CurV (w.setCell ⟨g, pre.length * 2, none⟩ (.int .i64 (f' : Nat))) lo pc pt (some g) (pre ++ [(f', t)]) ∧ ButS (CurB pc (some g)) w (w.setCell ⟨g, pre.length * 2, none⟩ (.int .i64 (f' : Nat))) := by
  have hne := (h.ne rfl).1
  obtain ⟨⟨a, c, h1, h2, h3⟩, h4⟩ := h
  have hl : (pre ++ [(f, t)]).length = pre.length + 1 := by simp
  have hl2 : (pre ++ [(f', t)]).length = pre.length + 1 := by simp
  rw [hl] at h1 h2 h3
  rcases h2.2 with ⟨e, e2⟩ | ⟨g', c', cur, e, hb, hg, hnc, hcm, hcs, ht⟩
  · omega
  · cases e
    have e3 : g = g' := (Option.some.inj h3).symm
    subst e3
    obtain ⟨k1, k2⟩ := h2.stored (pre.length * 2) (.int .i64 (f' : Nat))
    have e : (spV (pre ++ [(f, t)])).set (pre.length * 2) (.int .i64 (f' : Nat)) = spV (pre ++ [(f', t)]) := by
      rw [spV_snoc, spV_snoc, List.set_append_right _ _ (by rw [spV_len]; exact Nat.le_refl _), spV_len, Nat.sub_self]
      rfl
    rw [e] at k1
    refine ⟨⟨⟨some ⟨g, 0, none⟩, c, ?_, ?_, ?_⟩, h4⟩, (ButS.refl _ w).set (.inl (.inr rfl)) _ _⟩
    · rw [hl2, heap_setCell_other _ _ _ _ (fun e => hne e.symm)]
      exact h1
    · rw [hl2]
      exact k1
    · rw [hl2]
      rfl
theorem c_walk (pt d : Nat) (ways : List (List ByteArray)) (lo : Nat) (w : World) (h : TrieV w pt d ways) (hlo : lo ≤ w.heap.size) :
    Calls Tryz.prog 88 #[.pointer (some ⟨pt, 0, none⟩)] w fun e w' => e = .returned (.pointer (some ⟨w.heap.size, 0, none⟩)) ∧ CurV w' lo w.heap.size pt none [] ∧ Ext w w' := by
  have NO := Lib.hid (c_none pt d ways w h)
  clear h
  go_enter Tryz.func88, Tryz.ntmps88
  go_wp2_with (go_at_call 105; (with_reducible refine NO.out.mono ?_); rintro e w1 ⟨rfl, hw1⟩; obtain rfl := hw1.symm)
  go_returns
  exact ⟨rfl, ⟨⟨none, 0, heap_alloc_new w _, World.ownsRow_nil _ _ _ _, rfl⟩, hlo⟩, ext_alloc (Below.refl _ _) _⟩
theorem c_last_nil (pc pt lo : Nat) (rb : Option Nat) (w : World) (h : CurV w lo pc pt rb []) :
    Calls Tryz.prog 123 #[.pointer (some ⟨pc, 0, none⟩)] w fun e w' => e = .returned (.pointer none) ∧ w' = w := by
  obtain ⟨a, c, h0, h1, _⟩ := h.cells
  rw [List.length_nil] at h1
  clear h
  go_enter Tryz.func123, Tryz.ntmps123
  go_wp2
  go_returns
  exact ⟨rfl, rfl⟩
theorem c_last (pc pt lo g : Nat) (pre : List (Nat × Nat)) (f t : Nat) (w : World) (h : CurV w lo pc pt (some g) (pre ++ [(f, t)])) :
    Calls Tryz.prog 123 #[.pointer (some ⟨pc, 0, none⟩)] w fun e w' => e = .returned (.pointer (some ⟨g, pre.length * 2, none⟩)) ∧ ∃ q, w' = w.drewN q := by
  obtain ⟨g', c, e, h0, h1, _, hc, _, _, _, hcm⟩ := h.last
  cases e
  obtain ⟨k, hk⟩ : ∃ k, pre.length = k := ⟨_, rfl⟩
  rw [hk] at h1 hc ⊢
  have hcm2 : c ≤ 9223372036854775807 := hcm
  have q1 : ((k : Int) + 1 == 0) = false := beq_eq_false_iff_ne.2 (by omega)
  have r1 : IntKind.i64.wrap (k : Int) = (k : Int) := by rw [IntKind.wrap_i64]; omega
  have r2 : (k : Int) < (k : Int) + 1 := by omega
  clear h hk hcm
  go_enter Tryz.func123, Tryz.ntmps123
  go_wp2
  go_quiet (fail)
  go_wp2
  go_returns
  exact ⟨rfl, _, rfl⟩
theorem c_at (pc pt lo : Nat) (rb : Option Nat) (sp : List (Nat × Nat)) (w : World) (h : CurV w lo pc pt rb sp) :
    Calls Tryz.prog 120 #[.pointer (some ⟨pc, 0, none⟩)] w fun e w' => e = .returned (.int .i64 (sp.length : Nat)) ∧ w' = w := by
  obtain ⟨a, c, h0, h1, _⟩ := h.cells
  clear h
  go_enter Tryz.func120, Tryz.ntmps120
  go_wp2
  go_returns
  exact ⟨rfl, rfl⟩
theorem c_atEnd (pc pt lo : Nat) (rb : Option Nat) (sp : List (Nat × Nat)) (w : World) (h : CurV w lo pc pt rb sp) :
    Calls Tryz.prog 119 #[.pointer (some ⟨pc, 0, none⟩)] w fun e w' => e = .returned (.bool (endB sp)) ∧ ∃ q, w' = w.drewN q := by
  rcases sp.eq_nil_or_concat with rfl | ⟨pre, ⟨f, t⟩, e⟩
  · have L := Lib.hid (c_last_nil pc pt lo rb w h)
    clear h
    rw [endB_nil]
    go_enter Tryz.func119, Tryz.ntmps119
    go_wp2_with (go_at_call 123; (with_reducible refine L.out.mono ?_); rintro e w1 ⟨rfl, hw1⟩; obtain rfl := hw1.symm)
    go_quiet (fail)
    go_wp2
    go_returns
    exact ⟨rfl, _, rfl⟩
  · rw [List.concat_eq_append] at e
    subst e
    obtain ⟨g, c, rfl, h0, h1, _, _, z0, z1, _⟩ := h.last
    have L := Lib.hid (c_last pc pt lo g pre f t w h)
    rw [endB_snoc]
    obtain ⟨b, hb⟩ : ∃ b, decide (f = t) = b := ⟨_, rfl⟩
    have hb2 : ((f : Int) == (t : Int)) = b := by rw [← hb, Bool.eq_iff_iff]; simp; omega
    rw [hb]
    clear h hb
    go_enter Tryz.func119, Tryz.ntmps119
    go_wp2_with (go_at_call 123; (with_reducible refine L.out.mono ?_); rintro e w1 ⟨rfl, q1, hw1⟩; obtain rfl := hw1.symm)
    go_quiet (fail)
    go_wp2
    go_returns
    exact ⟨by first | rfl | (rw [hb2]), _, by rw [World.drewN_drewN]⟩
end Go.Proofs.YtpgbenijjodoeaaGreat
