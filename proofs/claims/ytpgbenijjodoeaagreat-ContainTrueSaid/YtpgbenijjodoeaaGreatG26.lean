/- A cursor's calls, each by one contract; what they make of the spans. How a cursor meets all ways, a plain law: steps are bounded. What TrieSeeks says, a plain law: the ways through a place; what follows it, and their counts. A cursor's levels, a plain law: what the levels hold by the spans, and what the calls make of them. -/
import Derived.Test.YtpgbenijjodoeaaGreatG22
import Derived.Test.YtpgbenijjodoeaaGreatG25
namespace Go.Proofs.YtpgbenijjodoeaaGreat
open Go.ChangeShapes Go.WideShapes Go.ChangeAt Go.RowKit
def openM (d : Nat) (ways : List (List ByteArray)) (sp : List (Nat × Nat)) : List (Nat × Nat) := if mayOpen d ways sp = true then sp ++ [openS ways sp] else sp
def nextM (sp : List (Nat × Nat)) : List (Nat × Nat) := match sp.getLast? with
  | some s => if s.1 = s.2 then sp else sp.dropLast ++ [(s.1 + 1, s.2)]
  | none => sp
def nextB (sp : List (Nat × Nat)) : Bool := match sp.getLast? with
  | some s => if s.1 = s.2 then false else !decide (s.1 + 1 = s.2)
  | none => false
/-- Where Seek brings the last span. -/
def seekP (ways : List (List ByteArray)) (sp : List (Nat × Nat)) (s : Nat × Nat) (x : ByteArray) : Nat := skP (keysM ways (sp.length - 1) ways.length) s.1 s.2 x
def seekM (ways : List (List ByteArray)) (sp : List (Nat × Nat)) (x : ByteArray) : List (Nat × Nat) := match sp.getLast? with
  | some s => if s.1 = s.2 then sp else sp.dropLast ++ [(seekP ways sp s x, s.2)]
  | none => sp
def seekB (ways : List (List ByteArray)) (sp : List (Nat × Nat)) (x : ByteArray) : Bool := match sp.getLast? with
  | some s => if s.1 = s.2 then false else !decide (seekP ways sp s x = s.2)
  | none => false
theorem nextM_snoc (pre : List (Nat × Nat)) (f t : Nat) : nextM (pre ++ [(f, t)]) = if f = t then pre ++ [(f, t)] else pre ++ [(f + 1, t)] := by simp [nextM]
theorem nextB_snoc (pre : List (Nat × Nat)) (f t : Nat) : nextB (pre ++ [(f, t)]) = if f = t then false else !decide (f + 1 = t) := by simp [nextB]
theorem seekM_snoc (ways : List (List ByteArray)) (pre : List (Nat × Nat)) (f t : Nat) (x : ByteArray) : seekM ways (pre ++ [(f, t)]) x = if f = t then pre ++ [(f, t)] else pre ++ [(skP (keysM ways pre.length ways.length) f t x, t)] := by simp [seekM, seekP]
theorem seekB_snoc (ways : List (List ByteArray)) (pre : List (Nat × Nat)) (f t : Nat) (x : ByteArray) : seekB ways (pre ++ [(f, t)]) x = if f = t then false else !decide (skP (keysM ways pre.length ways.length) f t x = t) := by simp [seekB, seekP]
/-- What a call of a cursor brings about. -/
def StepPost (lo pc pt : Nat) (rb : Option Nat) (sp' : List (Nat × Nat)) (b : Bool) (w : World) (e : Ending) (w' : World) : Prop := ∃ rb', e = .returned (.bool b) ∧ CurV w' lo pc pt rb' sp' ∧ ButS (CurB pc rb) w w' ∧ ∀ g, rb' = some g → rb = some g ∨ w.heap.size ≤ g
theorem StepPost.same {lo pc pt : Nat} {rb : Option Nat} {sp : List (Nat × Nat)} {b : Bool} {w : World} {e : Ending} {w' : World} (h : CurV w lo pc pt rb sp) (he : e = .returned (.bool b)) (hw : Ext w w') : StepPost lo pc pt rb sp b w e w' := ⟨rb, he, h.ext hw, (ButS.refl _ w).ext hw, fun _ h => .inl h⟩
theorem snoc_cases {α : Type} (l : List α) : l = [] ∨ ∃ pre x, l = pre ++ [x] := by
  rcases l.eq_nil_or_concat with rfl | ⟨pre, x, e⟩
  · exact .inl rfl
  · exact .inr ⟨pre, x, by rw [e, List.concat_eq_append]⟩
theorem CurOk.st {d : Nat} {ways : List (List ByteArray)} {sp : List (Nat × Nat)} (h : CurOk d ways sp) (hne : sp ≠ []) : ∃ A B, CurSt d ways sp A B := by
  rcases h with h | h
  · exact absurd h hne
  · exact h
theorem CurFacts.small {d : Nat} {ways : List (List ByteArray)} {pre : List (Nat × Nat)} {f t A B : Nat} (F : CurFacts d ways pre f t A B) : t ≤ ways.length := by
  have h1 := F.top
  have h2 := wid_mono ways pre.length F.seg.top
  have h3 := wid_le ways pre.length ways.length
  omega
section
variable {w : World} {lo pc pt d : Nat} {ways : List (List ByteArray)} {rb : Option Nat} {sp : List (Nat × Nat)}
theorem s_up (h : CurV w lo pc pt rb sp) :
    Calls Tryz.prog 109 #[.pointer (some ⟨pc, 0, none⟩)] w (StepPost lo pc pt rb sp.dropLast (!sp.isEmpty) w) := by
  rcases snoc_cases sp with rfl | ⟨pre, ⟨f, t⟩, rfl⟩
  · exact (c_up_no pc pt lo rb w h).mono fun e w' ⟨h1, h2⟩ => StepPost.same h h1 (by rw [h2]; exact Below.refl _ _)
  · obtain ⟨g, c, rfl, _⟩ := h.last
    rw [List.dropLast_concat]
    refine (c_up pc pt lo g pre f t w h).mono fun e w' ⟨h1, h2, h3⟩ => ⟨some g, ?_, h2, h3, fun _ h => .inl h⟩
    rw [h1]
    simp
theorem s_next (h : CurV w lo pc pt rb sp) (hw : Ways d ways) (hc : CurOk d ways sp) (hn : ways.length ≤ 1000000) :
    Calls Tryz.prog 127 #[.pointer (some ⟨pc, 0, none⟩)] w (StepPost lo pc pt rb (nextM sp) (nextB sp) w) := by
  rcases snoc_cases sp with rfl | ⟨pre, ⟨f, t⟩, rfl⟩
  · exact (c_next_no pc pt lo rb [] w h (.inl rfl)).mono fun e w' ⟨h1, h2⟩ => StepPost.same h h1 h2
  · rw [nextM_snoc, nextB_snoc]
    by_cases hft : f = t
    · rw [if_pos hft, if_pos hft]
      exact (c_next_no pc pt lo rb _ w h (.inr (by rw [endB_snoc, decide_eq_true hft]))).mono fun e w' ⟨h1, h2⟩ => StepPost.same h h1 h2
    · rw [if_neg hft, if_neg hft]
      obtain ⟨A, B, hs⟩ := hc.st (by simp)
      have F := hs.facts hw pre f t rfl
      obtain ⟨g, c, rfl, _⟩ := h.last
      exact (c_next pc pt lo g pre f t w h (by have := F.le; omega) (by have := F.small; omega)).mono fun e w' ⟨h1, h2, h3⟩ => ⟨some g, h1, h2, h3, fun _ h => .inl h⟩
theorem s_seek (x : ByteArray) (h : CurV w lo pc pt rb sp) (ht : TrieV w pt d ways) (hw : Ways d ways) (hc : CurOk d ways sp) (hn : ways.length ≤ 1000000) :
    Calls Tryz.prog 126 #[.pointer (some ⟨pc, 0, none⟩), .string x] w (StepPost lo pc pt rb (seekM ways sp x) (seekB ways sp x) w) := by
  rcases snoc_cases sp with rfl | ⟨pre, ⟨f, t⟩, rfl⟩
  · exact (c_seek_no pc pt lo rb [] x w h (.inl rfl)).mono fun e w' ⟨h1, h2⟩ => StepPost.same h h1 h2
  · rw [seekM_snoc, seekB_snoc]
    by_cases hft : f = t
    · rw [if_pos hft, if_pos hft]
      exact (c_seek_no pc pt lo rb _ x w h (.inr (by rw [endB_snoc, decide_eq_true hft]))).mono fun e w' ⟨h1, h2⟩ => StepPost.same h h1 h2
    · rw [if_neg hft, if_neg hft]
      obtain ⟨A, B, hs⟩ := hc.st (by simp)
      have F := hs.facts hw pre f t rfl
      obtain ⟨g, c, rfl, _⟩ := h.last
      exact (c_seekC pc pt lo g d ways pre f t A B x w h ht hw F (by have := F.le; omega) hn _ rfl).mono fun e w' ⟨h1, h2, h3⟩ => ⟨some g, h1, h2, h3, fun _ h => .inl h⟩
theorem s_open (h : CurV w lo pc pt rb sp) (ht : TrieV w pt d ways) (hw : Ways d ways) (hc : CurOk d ways sp) (hd : d ≤ 64) (hn : ways.length ≤ 1000000) :
    Calls Tryz.prog 107 #[.pointer (some ⟨pc, 0, none⟩)] w (StepPost lo pc pt rb (openM d ways sp) (mayOpen d ways sp) w) := by
  unfold openM
  cases hm : mayOpen d ways sp with
  | false =>
    rw [if_neg (by simp)]
    exact (c_open_no pc pt lo d ways rb sp w h ht hm).mono fun e w' ⟨h1, h2⟩ => StepPost.same h h1 h2
  | true =>
    rw [if_pos rfl]
    have hm2 := hm
    unfold mayOpen at hm2
    simp only [Bool.and_eq_true, Bool.not_eq_true', decide_eq_false_iff_not] at hm2
    obtain ⟨⟨m1, m2⟩, m3⟩ := hm2
    rcases snoc_cases sp with rfl | ⟨pre, ⟨f, t⟩, rfl⟩
    · have hd0 : 0 < d := by
        rcases Nat.eq_zero_or_pos d with e | e
        · exact absurd e.symm m2
        · exact e
      exact (c_open_nil pc pt lo d ways rb w h ht hd0 (by omega)).mono fun e w' ⟨h1, g, h2, h3, h4⟩ => ⟨some g, h1, h2, h3, fun _ e => by cases e; exact h4⟩
    · obtain ⟨A, B, hs⟩ := hc.st (by simp)
      have F := hs.facts hw pre f t rfl
      obtain ⟨g, c, rfl, _⟩ := h.last
      rw [endB_snoc] at m1
      have hft : f ≠ t := by simpa using m1
      have hl : (pre ++ [(f, t)]).length = pre.length + 1 := by simp
      rw [openS_snoc]
      exact (c_open pc pt lo g d ways pre f t A B w h ht F (by have := F.le; omega) (by have := F.dep; omega) hd hn).mono fun e w' ⟨h1, g', h2, h3, h4⟩ => ⟨some g', h1, h2, h3, fun _ e => by cases e; exact h4⟩
end
theorem CurOk.opened {d : Nat} {ways : List (List ByteArray)} (hw : Ways d ways) {sp : List (Nat × Nat)} (h : CurOk d ways sp) : CurOk d ways (openM d ways sp) := by
  unfold openM
  split
  · rename_i hm
    exact h.open_ok hw hm
  · exact h
theorem CurOk.upped {d : Nat} {ways : List (List ByteArray)} {sp : List (Nat × Nat)} (h : CurOk d ways sp) : CurOk d ways sp.dropLast := by
  rcases snoc_cases sp with rfl | ⟨pre, s, rfl⟩
  · exact .inl rfl
  · rw [List.dropLast_concat]
    obtain ⟨A, B, hs⟩ := h.st (by simp)
    rcases hs.pop pre s rfl with e | ⟨pre0, f, t, A0, B0, _, _, h0, _⟩
    · exact .inl e
    · exact .inr ⟨A0, B0, h0⟩
theorem CurOk.nexted {d : Nat} {ways : List (List ByteArray)} (hw : Ways d ways) {sp : List (Nat × Nat)} (h : CurOk d ways sp) : CurOk d ways (nextM sp) := by
  rcases snoc_cases sp with rfl | ⟨pre, ⟨f, t⟩, rfl⟩
  · exact .inl rfl
  · rw [nextM_snoc]
    split
    · exact h
    · rename_i hft
      obtain ⟨A, B, hs⟩ := h.st (by simp)
      have F := hs.facts hw pre f t rfl
      exact .inr ⟨A, B, hs.move pre f t (f + 1) rfl (by have := F.ge; omega) (by have := F.le; omega)⟩
theorem CurFacts.seekIn {d : Nat} {ways : List (List ByteArray)} {pre : List (Nat × Nat)} {f t A B : Nat} (F : CurFacts d ways pre f t A B) (x : ByteArray) : f ≤ skP (keysM ways pre.length ways.length) f t x ∧ skP (keysM ways pre.length ways.length) f t x ≤ t := by
  have hb := wid_mono ways pre.length F.seg.top
  have := skP_spec (ks := keysM ways pre.length ways.length) (f := f) (t := t) x F.le (by rw [keysM_len]; have := F.top; omega)
  exact ⟨this.1, this.2.1⟩
theorem CurOk.seeked {d : Nat} {ways : List (List ByteArray)} (hw : Ways d ways) {sp : List (Nat × Nat)} (h : CurOk d ways sp) (x : ByteArray) : CurOk d ways (seekM ways sp x) := by
  rcases snoc_cases sp with rfl | ⟨pre, ⟨f, t⟩, rfl⟩
  · exact .inl rfl
  · rw [seekM_snoc]
    split
    · exact h
    · obtain ⟨A, B, hs⟩ := h.st (by simp)
      have F := hs.facts hw pre f t rfl
      obtain ⟨s1, s2⟩ := F.seekIn x
      exact .inr ⟨A, B, hs.move pre f t _ rfl (by have := F.ge; omega) s2⟩
end Go.Proofs.YtpgbenijjodoeaaGreat
namespace Go.Proofs.YtpgbenijjodoeaaGreat
def qSum (g : Nat → Nat) : Nat → Nat
  | 0 => 0
  | n + 1 => qSum g n + g n
theorem qSum_congr {g h : Nat → Nat} {n : Nat} (e : ∀ i, i < n → g i = h i) : qSum g n = qSum h n := by
  induction n with
  | zero => rfl
  | succ n ih => rw [qSum, qSum, ih (fun i hi => e i (by omega)), e n (Nat.lt_succ_self n)]
theorem qSum_bump {g h : Nat → Nat} {n k : Nat} (hk : k < n) (e : ∀ i, i < n → i ≠ k → h i = g i) (e2 : h k = g k + 1) : qSum h n = qSum g n + 1 := by
  induction n with
  | zero => omega
  | succ n ih =>
    rw [qSum, qSum]
    by_cases hkn : k = n
    · subst hkn
      rw [e2, qSum_congr (fun i hi => e i (by omega) (by omega))]
      omega
    · rw [ih (by omega) (fun i hi hne => e i (by omega) hne), e n (Nat.lt_succ_self n) (fun h => hkn h.symm)]
      omega
theorem qSum_le {g : Nat → Nat} {n M : Nat} (h : ∀ i, i < n → g i ≤ M) : qSum g n ≤ n * M := by
  induction n with
  | zero => simp [qSum]
  | succ n ih =>
    rw [qSum, Nat.succ_mul]
    have h1 := ih (fun i hi => h i (by omega))
    have h2 := h n (Nat.lt_succ_self n)
    omega
/-- How many places of level i have been entered. -/
def qAt (ways : List (List ByteArray)) (pre : List (Nat × Nat)) (cur i : Nat) : Nat := match pre[i]? with
  | some s => s.1 + 1
  | none => wid ways i cur
def pot (d : Nat) (ways : List (List ByteArray)) (pre : List (Nat × Nat)) (cur : Nat) : Nat := qSum (qAt ways pre cur) d
/-- Where a cursor stands that meets all ways: cur ways are behind it. -/
structure DfsSt (d : Nat) (ways : List (List ByteArray)) (s : Nat) (sp : List (Nat × Nat)) (cur : Nat) : Prop where
  inv : (sp = [] ∧ cur = 0 ∧ s = 0) ∨ ∃ pre f t A B, sp = pre ++ [(f, t)] ∧ CurSt d ways sp A B ∧ cur = st ways pre.length f ∧ s + sp.length ≤ 2 * pot d ways pre cur + 2
theorem DfsSt.start (d : Nat) (ways : List (List ByteArray)) : DfsSt d ways 0 [] 0 := ⟨.inl ⟨rfl, rfl, rfl⟩⟩
theorem pot_le {d : Nat} {ways : List (List ByteArray)} {pre : List (Nat × Nat)} {f t A B : Nat} (h : CurSt d ways (pre ++ [(f, t)]) A B) (cur : Nat) (hc : cur ≤ ways.length) : pot d ways pre cur ≤ d * ways.length := by
  refine qSum_le fun i hi => ?_
  unfold qAt
  cases hp : pre[i]? with
  | none => exact Nat.le_trans (wid_mono ways i hc) (wid_le ways i _)
  | some s =>
    -- an entered place of an outer level
    have hne : pre ≠ [] := by rintro rfl; simp at hp
    rcases h.pop pre (f, t) rfl with e | ⟨pre0, f0, t0, A0, B0, e, hlt, h0, _⟩
    · exact absurd e hne
    · subst e
      have he : endB (pre0 ++ [(f0, t0)]) = false := by rw [endB_snoc]; simp; omega
      have hl : i < (pre0 ++ [(f0, t0)]).length := (List.getElem?_eq_some_iff.1 hp).1
      have key : ∀ {sp : List (Nat × Nat)} {A B : Nat}, CurSt d ways sp A B → endB sp = false → ∀ (i : Nat) (s : Nat × Nat), sp[i]? = some s → s.1 < wid ways i ways.length := by
        intro sp A B hsp
        induction hsp with
        | one f1 hd hN hf =>
          intro he i s hs
          have e2 : endB (([] : List (Nat × Nat)) ++ [(f1, wid ways 0 ways.length)]) = false := he
          rw [endB_snoc] at e2
          have hne : f1 ≠ wid ways 0 ways.length := by simpa using e2
          cases i with
          | zero => cases hs; show f1 < _; omega
          | succ i => simp at hs
        | more pre1 f1 t1 A1 B1 f2 h1 hlt1 hd h3 h4 ih =>
          intro he i s hs
          rw [endB_snoc] at he
          have hne : f2 ≠ wid ways (pre1.length + 1) (Go.Proofs.YtpgbenijjodoeaaGreat.st ways pre1.length (f1 + 1)) := by simpa using he
          by_cases hi : i < (pre1 ++ [(f1, t1)]).length
          · rw [List.getElem?_append_left hi] at hs
            exact ih (by rw [endB_snoc]; simp; omega) i s hs
          · have hl := (List.getElem?_eq_some_iff.1 hs).1
            rw [List.length_append, List.length_singleton] at hl
            have hi2 : i = (pre1 ++ [(f1, t1)]).length := by omega
            rw [List.getElem?_append_right (by omega), hi2, Nat.sub_self] at hs
            cases hs
            have hl2 : (pre1 ++ [(f1, t1)]).length = pre1.length + 1 := by simp
            rw [hi2, hl2]
            have := wid_mono ways (pre1.length + 1) (st_le ways pre1.length (f1 + 1))
            show f2 < _
            omega
      have := key h0 he i s hp
      have h5 := wid_le ways i ways.length
      show s.1 + 1 ≤ _
      omega
/-- The constants that a cursor is at are the way's. -/
theorem CurFacts.keys {d : Nat} {ways : List (List ByteArray)} (hw : Ways d ways) {pre : List (Nat × Nat)} {f t A B : Nat} (F : CurFacts d ways pre f t A B) (hft : f < t) : (wayAt ways (st ways pre.length f)).take (pre.length + 1) = keysOf ways (pre ++ [(f, t)]) ∧ st ways pre.length f < ways.length := by
  have hb := wid_mono ways pre.length F.seg.top
  have hj : f < wid ways pre.length ways.length := by have := F.top; omega
  have hs := st_spec ways pre.length f hj
  obtain ⟨p1, p2, _⟩ := F.seg.place F.ge (by have := F.top; omega)
  exact ⟨by rw [take_key hw hs.1 F.dep, F.seg.same _ p1 p2, F.pre, keysOf_snoc], hs.1⟩
theorem st_d {d : Nat} {ways : List (List ByteArray)} (hw : Ways d ways) {k f : Nat} (hk : d ≤ k + 1) (hf : f ≤ ways.length) : st ways k f = f := by
  have e := hw.wid_d (i := k) hk hf
  have hs : Stop ways k f := by
    rcases Nat.lt_or_ge f ways.length with h | h
    · exact .inr ⟨h, hw.fresh_d hk h⟩
    · exact .inl (by omega)
  have := st_wid ways k hs
  rwa [e] at this
theorem DfsSt.first {d : Nat} {ways : List (List ByteArray)} (hd : 0 < d) (hN : 0 < ways.length) : DfsSt d ways 1 [(0, wid ways 0 ways.length)] 0 :=
  ⟨.inr ⟨[], 0, _, _, _, rfl, .one 0 hd hN (Nat.zero_le _), (st_zero ways 0).symm, by show 1 + 1 ≤ _; omega⟩⟩
/-- At an end: one level up, and on. -/
theorem DfsSt.up {d : Nat} {ways : List (List ByteArray)} (hw : Ways d ways) {s cur : Nat} {pre0 : List (Nat × Nat)} {f0 t0 t A B : Nat} (h : CurSt d ways (pre0 ++ [(f0, t0)] ++ [(t, t)]) A B) (hc : cur = st ways (pre0 ++ [(f0, t0)]).length t) (hp : s + (pre0 ++ [(f0, t0)] ++ [(t, t)]).length ≤ 2 * pot d ways (pre0 ++ [(f0, t0)]) cur + 2) : DfsSt d ways (s + 1) (pre0 ++ [(f0 + 1, t0)]) cur ∧ f0 < t0 := by
  have F := h.facts hw _ t t rfl
  rcases h.pop (pre0 ++ [(f0, t0)]) (t, t) rfl with e | ⟨pre1, f1, t1, A0, B0, e, hlt, h0, eA, eB⟩
  · simp at e
  · obtain ⟨rfl, e2⟩ := snoc_inj e
    cases e2
    have F0 := h0.facts hw pre0 f0 t0 rfl
    have hb := wid_mono ways pre0.length F0.seg.top
    have hj : f0 < wid ways pre0.length ways.length := by have := F0.top; omega
    have hl : (pre0 ++ [(f0, t0)]).length = pre0.length + 1 := by simp
    have hcur : cur = st ways pre0.length (f0 + 1) := by
      rw [hc, F.top, hl, eB]
      exact st_wid ways (pre0.length + 1) ((st_stop ways pre0.length (f0 + 1)).up (Nat.le_succ _))
    refine ⟨⟨.inr ⟨pre0, f0 + 1, t0, A0, B0, rfl, h0.move pre0 f0 t0 (f0 + 1) rfl (by have := F0.ge; omega) hlt, hcur, ?_⟩⟩, hlt⟩
    have e : pot d ways (pre0 ++ [(f0, t0)]) cur = pot d ways pre0 cur := by
      refine qSum_congr fun i hi => ?_
      unfold qAt
      rcases Nat.lt_trichotomy i pre0.length with h1 | h1 | h1
      · rw [List.getElem?_append_left h1]
      · subst h1
        rw [List.getElem?_append_right (Nat.le_refl _), Nat.sub_self, List.getElem?_eq_none (l := pre0) (Nat.le_refl _)]
        show f0 + 1 = wid ways pre0.length cur
        rw [hcur, wid_st ways _ _ hj]
      · rw [List.getElem?_eq_none (l := pre0) (by omega), List.getElem?_eq_none (by rw [hl]; omega)]
    rw [e] at hp
    have l2 : (pre0 ++ [(f0 + 1, t0)]).length = pre0.length + 1 := by simp
    rw [List.length_append, List.length_singleton, hl] at hp
    rw [l2]
    omega
/-- At a way: on. -/
theorem DfsSt.on {d : Nat} {ways : List (List ByteArray)} (hw : Ways d ways) {s cur : Nat} {pre : List (Nat × Nat)} {f t A B : Nat} (h : CurSt d ways (pre ++ [(f, t)]) A B) (hc : cur = st ways pre.length f) (hp : s + (pre ++ [(f, t)]).length ≤ 2 * pot d ways pre cur + 2) (hft : f < t) (hd : d = pre.length + 1) : cur = f ∧ cur < ways.length ∧ keysOf ways (pre ++ [(f, t)]) = wayAt ways cur ∧ cntW ways pre.length f = 1 ∧ DfsSt d ways (s + 1) (pre ++ [(f + 1, t)]) (cur + 1) := by
  have F := h.facts hw pre f t rfl
  have hb := wid_mono ways pre.length F.seg.top
  have hj : f < wid ways pre.length ways.length := by have := F.top; omega
  have hN := wid_le ways pre.length ways.length
  have e1 := st_d hw (k := pre.length) (f := f) (by omega) (by omega)
  have e2 := st_d hw (k := pre.length) (f := f + 1) (by omega) (by omega)
  obtain ⟨k1, k2⟩ := F.keys hw hft
  rw [e1] at hc k1 k2
  subst hc
  refine ⟨rfl, k2, ?_, by unfold cntW; rw [e1, e2]; omega, ⟨.inr ⟨pre, _, t, A, B, rfl, h.move pre _ t _ rfl (by have := F.ge; omega) hft, e2.symm, ?_⟩⟩⟩
  · rw [← k1, List.take_of_length_le (by rw [(hw.at k2).2, hd]; exact Nat.le_refl _)]
  · have e : pot d ways pre (cur + 1) = pot d ways pre cur + 1 := by
      refine qSum_bump (k := pre.length) (by omega) (fun i hi hne => ?_) ?_
      · unfold qAt
        rw [show (pre[i]? : Option (Nat × Nat)) = some (pre[i]'(by omega)) from List.getElem?_eq_getElem (by omega)]
      · unfold qAt
        rw [List.getElem?_eq_none (l := pre) (Nat.le_refl _)]
        show wid ways pre.length (cur + 1) = wid ways pre.length cur + 1
        rw [hw.wid_d (by omega) k2, hw.wid_d (by omega) (Nat.le_of_lt k2)]
    have l1 : (pre ++ [(cur, t)]).length = pre.length + 1 := by simp
    have l2 : (pre ++ [(cur + 1, t)]).length = pre.length + 1 := by simp
    rw [l1] at hp
    rw [e, l2]
    omega
/-- At the end of the first level all ways are behind. -/
theorem CurSt.single {d : Nat} {ways : List (List ByteArray)} {sp : List (Nat × Nat)} {A B : Nat} (h : CurSt d ways sp A B) : ∀ s, sp = [s] → B = ways.length ∧ s.2 = wid ways 0 ways.length := by
  cases h with
  | one f hd hN hf => intro s e; cases e; exact ⟨rfl, rfl⟩
  | more pre f t A0 B0 f2 h0 hlt hd h1 h2 =>
    intro s e
    have := congrArg List.length e
    simp at this
theorem DfsSt.all {d : Nat} {ways : List (List ByteArray)} {cur t A B : Nat} (h : CurSt d ways [(t, t)] A B) (hc : cur = st ways 0 t) : cur = ways.length := by
  have e := (h.single _ rfl).2
  dsimp only at e
  rw [hc, e]
  exact st_end ways 0 _ (Nat.le_refl _)
/-- So many steps and no more. -/
theorem DfsSt.bound {d : Nat} {ways : List (List ByteArray)} {s cur : Nat} {sp : List (Nat × Nat)} (h : DfsSt d ways s sp cur) (hd : d ≤ 64) (hn : ways.length ≤ 400) : s < 100000 := by
  rcases h.inv with ⟨_, _, rfl⟩ | ⟨pre, f, t, A, B, rfl, hc, he, hp⟩
  · omega
  · have := pot_le hc cur (by rw [he]; exact st_le ways _ _)
    have h2 : d * ways.length ≤ 64 * 400 := Nat.mul_le_mul hd hn
    omega
end Go.Proofs.YtpgbenijjodoeaaGreat
namespace Go.Proofs.YtpgbenijjodoeaaGreat
/-- The ways that begin as a cursor's constants are those of its place. -/
theorem CurFacts.find {d : Nat} {ways : List (List ByteArray)} (hw : Ways d ways) {pre : List (Nat × Nat)} {f t A B : Nat} (F : CurFacts d ways pre f t A B) (hft : f < t) : FindSt ways (keysOf ways (pre ++ [(f, t)])) (keysOf ways (pre ++ [(f, t)])).length f (st ways pre.length f) (st ways pre.length (f + 1)) := by
  have hb := wid_mono ways pre.length F.seg.top
  have hj : f < wid ways pre.length ways.length := by have := F.top; omega
  obtain ⟨k1, k2⟩ := F.keys hw hft
  have hl : (keysOf ways (pre ++ [(f, t)])).length = pre.length + 1 := by rw [keysOf_len]; simp
  have hs := st_spec ways pre.length f hj
  refine ⟨?_, st_lt ways pre.length (Nat.lt_succ_self f) hj, ?_, fun m hm he => ?_, fun h => by omega, fun _ => ?_⟩
  · rw [hl]
    exact seg_below ways pre.length f hj
  · rw [List.take_length, hl]
    exact k1
  · rw [List.take_length, hl, ← k1] at he
    have e := (hw.nd_iff (i := pre.length) hm k2).1 he
    rw [nd_st ways pre.length f hj] at e
    obtain ⟨_, _, b3, b4⟩ := nd_spec ways pre.length m hm
    rw [e] at b3 b4
    exact ⟨b3, b4⟩
  · rw [hl, Nat.add_sub_cancel]
    exact ⟨hj, rfl, rfl⟩
theorem CurFacts.count {d : Nat} {ways : List (List ByteArray)} (hw : Ways d ways) {pre : List (Nat × Nat)} {f t A B : Nat} (F : CurFacts d ways pre f t A B) (hft : f < t) : countP ways (keysOf ways (pre ++ [(f, t)])) = cntW ways pre.length f ∧ 0 < cntW ways pre.length f := by
  have h := F.find hw hft
  refine ⟨h.count, ?_⟩
  have := h.lt
  unfold cntW
  omega
theorem segKeys_len {ways : List (List ByteArray)} {k A B : Nat} (h : Seg ways k A B) : (segKeys ways k A B).length = wid ways k B - wid ways k A := by
  have h1 := wid_mono ways k h.top
  have h2 := wid_mono ways k h.le
  unfold segKeys
  rw [List.length_take, List.length_drop, keysM_len]
  omega
theorem segKeys_at {ways : List (List ByteArray)} {k A B i : Nat} (h : Seg ways k A B) (hi : i < wid ways k B - wid ways k A) : (segKeys ways k A B)[i]? = some (keyAt ways k (st ways k (wid ways k A + i))) := by
  have h1 := wid_mono ways k h.top
  unfold segKeys
  rw [sub_at _ hi, keysM_at ways k _ (by omega)]
end Go.Proofs.YtpgbenijjodoeaaGreat
namespace Go.Proofs.YtpgbenijjodoeaaGreat
/-- What follows, way by way. -/
def folStep (b : List ByteArray) (out : List ByteArray) (x : List ByteArray) : List ByteArray := if x.take b.length = b then (if out.getLast? = some (x[b.length]?.getD ⟨#[]⟩) then out else out ++ [x[b.length]?.getD ⟨#[]⟩]) else out
def folR (ways : List (List ByteArray)) (b : List ByteArray) : List ByteArray := ways.foldl (folStep b) []
theorem folR_snoc (ways : List (List ByteArray)) (x b : List ByteArray) : folR (ways ++ [x]) b = folStep b (folR ways b) x := by simp [folR]
theorem take_wayAt {ways : List (List ByteArray)} {m : Nat} (h : m < ways.length) : ways.take (m + 1) = ways.take m ++ [wayAt ways m] := by
  rw [List.take_add_one]
  congr 1
  unfold wayAt
  rw [List.getElem?_eq_getElem h]
  rfl
/-- No way begins so: nothing follows. -/
theorem folR_none {ways : List (List ByteArray)} {b : List ByteArray} (h : ∀ m, m < ways.length → (wayAt ways m).take b.length ≠ b) : ∀ m, m ≤ ways.length → folR (ways.take m) b = []
  | 0, _ => rfl
  | m + 1, hm => by
    rw [take_wayAt (by omega), folR_snoc, folR_none h m (by omega)]
    unfold folStep
    rw [if_neg (h m (by omega))]
theorem segKeys_none (ways : List (List ByteArray)) (k A : Nat) : segKeys ways k A A = [] := by simp [segKeys]
theorem segKeys_next {ways : List (List ByteArray)} {k A m : Nat} (hA : A ≤ m) (hm : m < ways.length) : segKeys ways k A (m + 1) = segKeys ways k A m ++ if fresh ways k m = true then [keyAt ways k m] else [] := by
  unfold segKeys
  have h1 := wid_mono ways k hA
  rw [wid_succ]
  by_cases hf : fresh ways k m = true
  · rw [if_pos hf, if_pos hf, show wid ways k m + 1 - wid ways k A = (wid ways k m - wid ways k A) + 1 by omega, List.take_add_one]
    congr 1
    rw [List.getElem?_drop, show wid ways k A + (wid ways k m - wid ways k A) = wid ways k m by omega]
    unfold keysM
    rw [List.getElem?_map, starts_at ways k hm hf]
    rfl
  · rw [if_neg hf, if_neg hf, Nat.add_zero, List.append_nil]
/-- The last of what followed so far is what stands in the way ahead. -/
theorem segKeys_last {d : Nat} {ways : List (List ByteArray)} (hw : Ways d ways) {k A m : Nat} (hk : k < d) (hfA : fresh ways k A = true) (hA : A ≤ m) (hm : m < ways.length) : (segKeys ways k A (m + 1)).getLast? = some (keyAt ways k m) := by
  induction m with
  | zero =>
    obtain rfl : A = 0 := by omega
    rw [segKeys_next (Nat.le_refl _) hm, segKeys_none, if_pos hfA]
    rfl
  | succ m ih =>
    rw [segKeys_next hA hm]
    by_cases hf : fresh ways k (m + 1) = true
    · rw [if_pos hf, List.getLast?_concat]
    · have hne : A ≠ m + 1 := fun e => hf (e ▸ hfA)
      rw [if_neg hf, List.append_nil, ih (by omega) (by omega)]
      unfold fresh at hf
      have e : (wayAt ways m).take (k + 1) = (wayAt ways (m + 1)).take (k + 1) := by simpa using hf
      rw [take_key hw (by omega) hk, take_key hw hm hk] at e
      rw [(by simpa using (List.append_inj' e rfl).2 : keyAt ways k m = keyAt ways k (m + 1))]
theorem folR_some {d : Nat} {ways : List (List ByteArray)} (hw : Ways d ways) {b : List ByteArray} {p A B : Nat} (hb : b.length < d) (h : FindSt ways b b.length p A B) : ∀ m, m ≤ ways.length → folR (ways.take m) b = segKeys ways b.length A (max A (min m B))
  | 0, _ => by
    have : max A (min 0 B) = A := by omega
    rw [this, segKeys_none]
    rfl
  | m + 1, hm => by
    have ih := folR_some hw hb h m (by omega)
    have hpre : ∀ q, q < ways.length → ((wayAt ways q).take b.length = b ↔ A ≤ q ∧ q < B) := fun q hq => by
      constructor
      · intro e
        exact h.all q hq (by rw [List.take_length]; exact e)
      · intro ⟨e1, e2⟩
        have := h.pre_at e1 e2
        rwa [List.take_length] at this
    have hfA : fresh ways b.length A = true := by
      rcases Nat.eq_zero_or_pos b.length with h0 | h0
      · obtain ⟨_, e, _⟩ := h.zero h0
        rw [e]
        exact fresh_zero ways _
      · obtain ⟨e1, e2, _⟩ := h.pos h0
        have := (st_spec ways (b.length - 1) p e1).2.1
        rw [← e2] at this
        exact fresh_up ways this (by omega)
    rw [take_wayAt (by omega), folR_snoc, ih]
    unfold folStep
    by_cases hin : A ≤ m ∧ m < B
    · rw [if_pos ((hpre m (by omega)).2 hin)]
      have e1 : max A (min m B) = m := by omega
      have e2 : max A (min (m + 1) B) = m + 1 := by omega
      rw [e1, e2, segKeys_next hin.1 (by omega)]
      have e3 : (wayAt ways m)[b.length]?.getD ⟨#[]⟩ = keyAt ways b.length m := rfl
      rw [e3]
      rcases Nat.eq_or_lt_of_le hin.1 with e | e
      · subst e
        rw [segKeys_none, if_pos hfA, if_neg (by simp)]
      · obtain ⟨q, rfl⟩ : ∃ q, m = q + 1 := ⟨m - 1, by omega⟩
        rw [segKeys_last hw hb hfA (by omega) (by omega)]
        have t1 := (hpre q (by omega)).2 ⟨by omega, by omega⟩
        have t2 := (hpre (q + 1) (by omega)).2 hin
        have hfi : fresh ways b.length (q + 1) = true ↔ keyAt ways b.length q ≠ keyAt ways b.length (q + 1) := by
          unfold fresh
          rw [Nat.add_sub_cancel, take_key hw (by omega) hb, take_key hw (by omega) hb, t1, t2]
          simp
        by_cases hk : keyAt ways b.length q = keyAt ways b.length (q + 1)
        · rw [if_pos (by rw [hk]), if_neg (fun hf => hfi.1 hf hk), List.append_nil]
        · rw [if_neg (by simpa using hk), if_pos (hfi.2 hk)]
    · rw [if_neg (fun e => hin ((hpre m (by omega)).1 e))]
      have : max A (min (m + 1) B) = max A (min m B) := by omega
      rw [this]
theorem FolIs.eq {d : Nat} {ways : List (List ByteArray)} (hw : Ways d ways) {b xs : List ByteArray} (h : FolIs d ways b xs) : xs = if d ≤ b.length then [] else folR ways b := by
  rcases h with ⟨p, A, B, h1, h2, rfl⟩ | ⟨h1, rfl⟩
  · rw [if_neg (by omega)]
    have h3 := folR_some hw h1 h2 ways.length (Nat.le_refl _)
    rw [List.take_length] at h3
    have := h2.lt
    have := h2.seg.top
    rw [h3, show max A (min ways.length B) = B by omega]
  · rcases h1 with h1 | h1
    · rw [if_pos h1]
    · have h3 := folR_none h1 ways.length (Nat.le_refl _)
      rw [List.take_length] at h3
      rw [h3]
      simp
def folX (d : Nat) (ways : List (List ByteArray)) (b : List ByteArray) : List ByteArray := if d ≤ b.length then [] else folR ways b
/-- The open levels of a cursor: what may be met, and the place in that. -/
abbrev RLv : Type := List ByteArray × Nat
def rend (ls : List RLv) : Bool := match ls.getLast? with
  | some p => decide (p.2 = p.1.length)
  | none => false
theorem rend_snoc (pre : List RLv) (l : List ByteArray) (k : Nat) : rend (pre ++ [(l, k)]) = decide (k = l.length) := by simp [rend]
def rkeys (ls : List RLv) : List ByteArray := ls.map fun p => p.1[p.2]?.getD ⟨#[]⟩
/-- The ways that the level behind these spans ranges over. -/
def bnd (ways : List (List ByteArray)) (pre : List (Nat × Nat)) : Nat × Nat := match pre.getLast? with
  | some s => (st ways (pre.length - 1) s.1, st ways (pre.length - 1) (s.1 + 1))
  | none => (0, ways.length)
theorem bnd_nil (ways : List (List ByteArray)) : bnd ways [] = (0, ways.length) := rfl
theorem bnd_snoc (ways : List (List ByteArray)) (pre : List (Nat × Nat)) (f t : Nat) : bnd ways (pre ++ [(f, t)]) = (st ways pre.length f, st ways pre.length (f + 1)) := by simp [bnd]
def lvOf (ways : List (List ByteArray)) (pre : List (Nat × Nat)) (f : Nat) : RLv := (segKeys ways pre.length (bnd ways pre).1 (bnd ways pre).2, f - wid ways pre.length (bnd ways pre).1)
def lsOf (ways : List (List ByteArray)) (sp : List (Nat × Nat)) : List RLv := (List.range sp.length).map fun i => lvOf ways (sp.take i) (sp[i]?.getD (0, 0)).1
theorem lsOf_len (ways : List (List ByteArray)) (sp : List (Nat × Nat)) : (lsOf ways sp).length = sp.length := by simp [lsOf]
theorem lsOf_snoc (ways : List (List ByteArray)) (pre : List (Nat × Nat)) (f t : Nat) : lsOf ways (pre ++ [(f, t)]) = lsOf ways pre ++ [lvOf ways pre f] := by
  unfold lsOf
  rw [List.length_append, List.length_singleton, List.range_succ, List.map_append]
  congr 1
  · apply List.map_congr_left
    intro i hi
    have hi := List.mem_range.1 hi
    rw [List.take_append_of_le_length (by omega), List.getElem?_append_left hi]
  · simp
theorem CurSt.bnd {d : Nat} {ways : List (List ByteArray)} {sp : List (Nat × Nat)} {A B : Nat} (h : CurSt d ways sp A B) : ∀ pre s, sp = pre ++ [s] → bnd ways pre = (A, B) := by
  cases h with
  | one f0 hd hN hf =>
    intro pre s e
    have e2 : ([] : List (Nat × Nat)) ++ [(f0, wid ways 0 ways.length)] = pre ++ [s] := e
    rw [← (snoc_inj e2).1]
    rfl
  | more pre0 f0 t0 A0 B0 f2 h0 hlt hd h1 h2 =>
    intro pre s e
    rw [← (snoc_inj e).1, bnd_snoc]
structure LvF (d : Nat) (ways : List (List ByteArray)) (pre : List (Nat × Nat)) (f t : Nat) : Prop where
  ok : ∃ A B, CurSt d ways (pre ++ [(f, t)]) A B ∧ CurFacts d ways pre f t A B ∧ lvOf ways pre f = (segKeys ways pre.length A B, f - wid ways pre.length A) ∧ (segKeys ways pre.length A B).length = t - wid ways pre.length A ∧ wid ways pre.length A ≤ f
theorem CurOk.lv {d : Nat} {ways : List (List ByteArray)} (hw : Ways d ways) {pre : List (Nat × Nat)} {f t : Nat} (h : CurOk d ways (pre ++ [(f, t)])) : LvF d ways pre f t := by
  obtain ⟨A, B, hs⟩ := h.st (by simp)
  have F := hs.facts hw pre f t rfl
  refine ⟨A, B, hs, F, ?_, ?_, F.ge⟩
  · unfold lvOf
    rw [hs.bnd pre (f, t) rfl]
  · rw [segKeys_len F.seg, F.top]
theorem CurOk.init {d : Nat} {ways : List (List ByteArray)} {pre : List (Nat × Nat)} {s : Nat × Nat} (h : CurOk d ways (pre ++ [s])) : CurOk d ways pre ∧ endB pre = false := by
  obtain ⟨A, B, hs⟩ := h.st (by simp)
  rcases hs.pop pre s rfl with rfl | ⟨pre0, f, t, A0, B0, rfl, hlt, h0, _⟩
  · exact ⟨.inl rfl, rfl⟩
  · exact ⟨.inr ⟨_, _, h0⟩, by rw [endB_snoc, decide_eq_false (by omega)]⟩
theorem rend_lsOf {d : Nat} {ways : List (List ByteArray)} (hw : Ways d ways) {sp : List (Nat × Nat)} (h : CurOk d ways sp) : rend (lsOf ways sp) = endB sp := by
  rcases snoc_cases sp with rfl | ⟨pre, ⟨f, t⟩, rfl⟩
  · rfl
  · obtain ⟨A, B, hs, F, e, hl, hge⟩ := (h.lv hw).ok
    rw [lsOf_snoc, e, rend_snoc, hl, endB_snoc, decide_eq_decide]
    have := F.le
    omega
theorem rkeys_snoc (ls : List RLv) (p : RLv) : rkeys (ls ++ [p]) = rkeys ls ++ [p.1[p.2]?.getD ⟨#[]⟩] := by simp [rkeys]
theorem lv_key {d : Nat} {ways : List (List ByteArray)} {pre : List (Nat × Nat)} {f t A B : Nat} (F : CurFacts d ways pre f t A B) (hft : f < t) : (segKeys ways pre.length A B)[f - wid ways pre.length A]?.getD ⟨#[]⟩ = keyAt ways pre.length (st ways pre.length f) := by
  have h1 := F.top
  have h2 := F.ge
  rw [segKeys_at F.seg (by omega), show wid ways pre.length A + (f - wid ways pre.length A) = f by omega]
  rfl
theorem rkeys_lsOf {d : Nat} {ways : List (List ByteArray)} (hw : Ways d ways) : ∀ (n : Nat) (sp : List (Nat × Nat)), sp.length = n → CurOk d ways sp → endB sp = false → rkeys (lsOf ways sp) = keysOf ways sp := by
  intro n
  induction n with
  | zero =>
    intro sp hn _ _
    obtain rfl : sp = [] := List.eq_nil_of_length_eq_zero hn
    rfl
  | succ n ih =>
    intro sp hn h he
    rcases snoc_cases sp with rfl | ⟨pre, ⟨f, t⟩, rfl⟩
    · simp at hn
    · obtain ⟨A, B, hs, F, e, hl, hge⟩ := (h.lv hw).ok
      rw [endB_snoc] at he
      have hft : f ≠ t := by simpa using he
      have hle := F.le
      rw [lsOf_snoc, rkeys_snoc, ih pre (by simpa using hn) h.init.1 h.init.2, keysOf_snoc, e]
      dsimp only
      rw [lv_key F (by omega)]
/-- What follows the cursor's constants is what Open lays. -/
theorem folX_open {d : Nat} {ways : List (List ByteArray)} (hw : Ways d ways) {sp : List (Nat × Nat)} (h : CurOk d ways sp) (hm : mayOpen d ways sp = true) : lsOf ways (sp ++ [openS ways sp]) = lsOf ways sp ++ [(folX d ways (keysOf ways sp), 0)] := by
  have hm2 := hm
  unfold mayOpen at hm2
  simp only [Bool.and_eq_true, Bool.not_eq_true', decide_eq_false_iff_not] at hm2
  obtain ⟨⟨m1, m2⟩, m3⟩ := hm2
  rcases snoc_cases sp with rfl | ⟨pre, ⟨f, t⟩, rfl⟩
  · rw [openS_nil, lsOf_snoc]
    have hd0 : 0 < d := by
      rcases Nat.eq_zero_or_pos d with e | e
      · exact absurd e.symm m2
      · exact e
    have hf : FolIs d ways [] (segKeys ways 0 0 ways.length) := .inl ⟨0, 0, ways.length, hd0, FindSt.start [] (by omega), rfl⟩
    have := hf.eq hw
    unfold folX keysOf
    rw [List.mapIdx_nil, ← this]
    unfold lvOf
    rw [bnd_nil]
    rfl
  · obtain ⟨A, B, hs, F, e, hl, hge⟩ := (h.lv hw).ok
    rw [endB_snoc] at m1
    have hft : f ≠ t := by simpa using m1
    have hle := F.le
    have hlen : (pre ++ [(f, t)]).length = pre.length + 1 := by simp
    have hk : (keysOf ways (pre ++ [(f, t)])).length = pre.length + 1 := by rw [keysOf_len, hlen]
    have hdep := F.dep
    rw [hlen] at m2
    have hf : FolIs d ways (keysOf ways (pre ++ [(f, t)])) (segKeys ways (pre.length + 1) (st ways pre.length f) (st ways pre.length (f + 1))) := .inl ⟨f, _, _, by omega, F.find hw (by omega), by rw [hk]⟩
    have := hf.eq hw
    rw [openS_snoc, lsOf_snoc]
    unfold folX
    rw [← this]
    unfold lvOf
    rw [bnd_snoc, hlen]
    simp
theorem lsOf_up (ways : List (List ByteArray)) (sp : List (Nat × Nat)) : lsOf ways sp.dropLast = (lsOf ways sp).dropLast := by
  rcases snoc_cases sp with rfl | ⟨pre, ⟨f, t⟩, rfl⟩
  · rfl
  · rw [List.dropLast_concat, lsOf_snoc, List.dropLast_concat]
theorem CurOk.len {d : Nat} {ways : List (List ByteArray)} (hw : Ways d ways) {sp : List (Nat × Nat)} (h : CurOk d ways sp) : sp.length ≤ d := by
  rcases snoc_cases sp with rfl | ⟨pre, ⟨f, t⟩, rfl⟩
  · exact Nat.zero_le _
  · obtain ⟨A, B, hs, F, _⟩ := (h.lv hw).ok
    have := F.dep
    simp
    omega
theorem CurOk.size {d : Nat} {ways : List (List ByteArray)} (hw : Ways d ways) {pre : List (Nat × Nat)} {f t : Nat} (h : CurOk d ways (pre ++ [(f, t)])) : (lvOf ways pre f).1.length ≤ ways.length := by
  obtain ⟨A, B, hs, F, e, hl, hge⟩ := (h.lv hw).ok
  rw [e]
  dsimp only
  have := F.small
  omega
theorem CurOk.next_lv {d : Nat} {ways : List (List ByteArray)} (hw : Ways d ways) {pre : List (Nat × Nat)} {f t : Nat} (hc : CurOk d ways (pre ++ [(f, t)])) (hft : f ≠ t) :
    lsOf ways (nextM (pre ++ [(f, t)])) = lsOf ways pre ++ [((lvOf ways pre f).1, (lvOf ways pre f).2 + 1)] ∧ nextB (pre ++ [(f, t)]) = decide ((lvOf ways pre f).2 + 1 < (lvOf ways pre f).1.length) := by
  obtain ⟨A, B, hs, F, e, hlv, hge⟩ := (hc.lv hw).ok
  have hle := F.le
  rw [nextM_snoc, nextB_snoc, if_neg hft, if_neg hft, lsOf_snoc]
  have e2 : lvOf ways pre (f + 1) = (segKeys ways pre.length A B, f - wid ways pre.length A + 1) := by
    have : lvOf ways pre (f + 1) = ((lvOf ways pre f).1, f + 1 - wid ways pre.length (bnd ways pre).1) := rfl
    rw [this, e, hs.bnd pre (f, t) rfl]
    dsimp only
    rw [show f + 1 - wid ways pre.length A = f - wid ways pre.length A + 1 by omega]
  rw [e2, e]
  refine ⟨rfl, ?_⟩
  dsimp only
  rw [hlv, Bool.eq_iff_iff]
  simp
  omega
theorem CurOk.seek_lv {d : Nat} {ways : List (List ByteArray)} (hw : Ways d ways) {pre : List (Nat × Nat)} {f t : Nat} (hc : CurOk d ways (pre ++ [(f, t)])) (hft : f ≠ t) (x : ByteArray) :
    ∃ j, (lvOf ways pre f).2 ≤ j ∧ j ≤ (lvOf ways pre f).1.length ∧ (∀ i y, (lvOf ways pre f).2 ≤ i → i < j → (lvOf ways pre f).1[i]? = some y → ltB y x = true) ∧ (∀ y, (lvOf ways pre f).1[j]? = some y → ltB y x = false) ∧
      lsOf ways (seekM ways (pre ++ [(f, t)]) x) = lsOf ways pre ++ [((lvOf ways pre f).1, j)] ∧ seekB ways (pre ++ [(f, t)]) x = decide (j < (lvOf ways pre f).1.length) := by
  obtain ⟨A, B, hs, F, e, hlv, hge⟩ := (hc.lv hw).ok
  have hle := F.le
  have htop := F.top
  have hbn := wid_mono ways pre.length F.seg.top
  have hk : ∀ i, i < t - wid ways pre.length A → (keysM ways pre.length ways.length)[wid ways pre.length A + i]? = (segKeys ways pre.length A B)[i]? := fun i hi => by
    rw [segKeys_at F.seg (by omega), keysM_at ways pre.length _ (by omega)]
  obtain ⟨q1, q2, q3, q4⟩ := skP_spec (ks := keysM ways pre.length ways.length) x hle (by rw [keysM_len]; omega)
  rw [seekM_snoc, seekB_snoc, if_neg hft, if_neg hft, lsOf_snoc]
  generalize skP (keysM ways pre.length ways.length) f t x = r at *
  have e2 : lvOf ways pre r = (segKeys ways pre.length A B, r - wid ways pre.length A) := by
    have : lvOf ways pre r = ((lvOf ways pre f).1, r - wid ways pre.length (bnd ways pre).1) := rfl
    rw [this, e, hs.bnd pre (f, t) rfl]
  rw [e2, e]
  dsimp only
  rw [hlv]
  refine ⟨r - wid ways pre.length A, by omega, by omega, fun i y i1 i2 hy => ?_, fun y hy => ?_, rfl, ?_⟩
  · rw [← hk i (by omega)] at hy
    exact q3 _ y (by omega) (by omega) hy
  · have hlt := (List.getElem?_eq_some_iff.1 hy).1
    rw [hlv] at hlt
    rw [← hk _ hlt, show wid ways pre.length A + (r - wid ways pre.length A) = r by omega] at hy
    exact q4 (by omega) y hy
  · rw [Bool.eq_iff_iff]
    simp
    omega
/-- What follows, by what stands in the ways. -/
theorem folR_mem (ways : List (List ByteArray)) (b : List ByteArray) (k : ByteArray) (hl : ∀ x ∈ ways, b.length < x.length) : k ∈ folR ways b ↔ ∃ x ∈ ways, x.take (b.length + 1) = b ++ [k] := by
  revert hl
  refine snoc_ind (P := fun ways => (∀ x ∈ ways, b.length < x.length) → (k ∈ folR ways b ↔ ∃ x ∈ ways, x.take (b.length + 1) = b ++ [k])) (fun _ => by simp [folR]) (fun l x ih hl => ?_) ways
  have ih := ih fun y hy => hl y (by simp [hy])
  have hx : b.length < x.length := hl x (by simp)
  have ht : x.take (b.length + 1) = x.take b.length ++ [x[b.length]?.getD ⟨#[]⟩] := by
    rw [List.take_add_one, List.getElem?_eq_getElem hx]
    rfl
  have hlb : (x.take b.length).length = b.length := by rw [List.length_take]; omega
  have hone : x.take (b.length + 1) = b ++ [k] ↔ x.take b.length = b ∧ x[b.length]?.getD ⟨#[]⟩ = k := by
    rw [ht]
    constructor
    · intro e
      have := List.append_inj e hlb
      exact ⟨this.1, by simpa using this.2⟩
    · rintro ⟨e1, e2⟩
      rw [e1, e2]
  have hor : (∃ y ∈ l ++ [x], y.take (b.length + 1) = b ++ [k]) ↔ (k ∈ folR l b ∨ x.take b.length = b ∧ x[b.length]?.getD ⟨#[]⟩ = k) := by
    rw [ih, ← hone]
    simp only [List.mem_append, List.mem_singleton]
    constructor
    · rintro ⟨y, hy | rfl, e⟩
      · exact .inl ⟨y, hy, e⟩
      · exact .inr e
    · rintro (⟨y, hy, e⟩ | e)
      · exact ⟨y, .inl hy, e⟩
      · exact ⟨x, .inr rfl, e⟩
  rw [hor, folR_snoc]
  unfold folStep
  by_cases hb : x.take b.length = b
  · rw [if_pos hb]
    by_cases hlst : (folR l b).getLast? = some (x[b.length]?.getD ⟨#[]⟩)
    · rw [if_pos hlst]
      refine ⟨.inl, fun h => ?_⟩
      rcases h with h | ⟨_, h⟩
      · exact h
      · rw [← h]
        exact List.mem_of_getLast? hlst
    · rw [if_neg hlst, List.mem_append, List.mem_singleton]
      constructor
      · rintro (h | h)
        · exact .inl h
        · exact .inr ⟨hb, h.symm⟩
      · rintro (h | ⟨_, h⟩)
        · exact .inl h
        · exact .inr h.symm
  · rw [if_neg hb]
    exact ⟨.inl, fun h => h.elim id fun h => absurd h.1 hb⟩
def RisingB (ks : List ByteArray) : Prop := ks.Pairwise fun a b => ltB a b = true
theorem folR_rising {d : Nat} {ways : List (List ByteArray)} (hw : Ways d ways) {b : List ByteArray} (hb : b.length < d) : RisingB (folR ways b) := by
  have main : ∀ m, m ≤ ways.length → RisingB (folR (ways.take m) b) ∧ ∀ k, k ∈ folR (ways.take m) b → ∀ q, m ≤ q → q < ways.length → (wayAt ways q).take b.length = b → ltB k (keyAt ways b.length q) = true ∨ k = keyAt ways b.length q := by
    intro m
    induction m with
    | zero => exact fun _ => ⟨List.Pairwise.nil, fun k hk => by simp [folR] at hk⟩
    | succ m ih =>
      intro hm
      obtain ⟨i1, i2⟩ := ih (by omega)
      rw [take_wayAt (by omega), folR_snoc]
      unfold folStep
      have e3 : (wayAt ways m)[b.length]?.getD ⟨#[]⟩ = keyAt ways b.length m := rfl
      rw [e3]
      by_cases hx : (wayAt ways m).take b.length = b
      · rw [if_pos hx]
        have hthis : ∀ q, m + 1 ≤ q → q < ways.length → (wayAt ways q).take b.length = b → ltB (keyAt ways b.length m) (keyAt ways b.length q) = true ∨ keyAt ways b.length m = keyAt ways b.length q := by
          intro q h1 h2 h3
          by_cases he : (wayAt ways m).take (b.length + 1) = (wayAt ways q).take (b.length + 1)
          · rw [take_key hw (by omega) hb, take_key hw (by omega) hb] at he
            exact .inr (by simpa using (List.append_inj' he rfl).2)
          · exact .inl (hw.key_lt hb (by omega) h2 (by rw [hx, h3]) he)
        by_cases hl : (folR (ways.take m) b).getLast? = some (keyAt ways b.length m)
        · rw [if_pos hl]
          exact ⟨i1, fun k hk q h1 h2 h3 => i2 k hk q (by omega) h2 h3⟩
        · rw [if_neg hl]
          refine ⟨?_, fun k hk q h1 h2 h3 => ?_⟩
          · refine List.pairwise_append.2 ⟨i1, List.pairwise_singleton _ _, fun k hk y hy => ?_⟩
            rw [List.mem_singleton] at hy
            subst hy
            rcases i2 k hk m (Nat.le_refl _) (by omega) hx with h | h
            · exact h
            · exfalso
              subst h
              obtain ⟨pre, z, hz⟩ : ∃ pre z, folR (ways.take m) b = pre ++ [z] := by
                rcases snoc_cases (folR (ways.take m) b) with e | e
                · rw [e] at hk
                  cases hk
                · exact e
              rw [hz, List.getLast?_concat] at hl
              rw [hz] at hk i1
              rcases List.mem_append.1 hk with hk | hk
              · have h1 := (List.pairwise_append.1 i1).2.2 _ hk z (by simp)
                rcases i2 z (by rw [hz]; simp) m (Nat.le_refl _) (by omega) hx with h2 | h2
                · exact lt_irr _ (lt_trans h1 h2)
                · exact hl (by rw [h2])
              · exact hl (by rw [List.mem_singleton.1 hk])
          · rcases List.mem_append.1 hk with hk | hk
            · exact i2 k hk q (by omega) h2 h3
            · rw [List.mem_singleton.1 hk]
              exact hthis q h1 h2 h3
      · rw [if_neg hx]
        exact ⟨i1, fun k hk q h1 h2 h3 => i2 k hk q (by omega) h2 h3⟩
  have := (main ways.length (Nat.le_refl _)).1
  rwa [List.take_length] at this
end Go.Proofs.YtpgbenijjodoeaaGreat
