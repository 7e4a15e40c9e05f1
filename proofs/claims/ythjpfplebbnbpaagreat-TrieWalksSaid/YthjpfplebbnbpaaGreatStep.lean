/- A cursor's calls, each by one contract; what they make of the spans. -/
import Derived.Test.YthjpfplebbnbpaaGreatCur5
namespace Go.Proofs.YthjpfplebbnbpaaGreat
open Go.ChangeShapes Go.WideShapes Go.ChangeAt Go.RowKit
def openM (d : Nat) (ways : List (List ByteArray)) (sp : List (Nat × Nat)) : List (Nat × Nat) := if mayOpen d ways sp = true then sp ++ [openS ways sp] else sp
def nextM (sp : List (Nat × Nat)) : List (Nat × Nat) := match sp.getLast? with
  | some s => if s.1 = s.2 then sp else sp.dropLast ++ [(s.1 + 1, s.2)]
  | none => sp
def nextB (sp : List (Nat × Nat)) : Bool := match sp.getLast? with
  | some s => if s.1 = s.2 then false else !decide (s.1 + 1 = s.2)
  | none => false
/-- Where Seek brings the last span. -/
def seekP (ways : List (List ByteArray)) (sp : List (Nat × Nat)) (s : Nat × Nat) (x : ByteArray) : Nat := skP (keysM ways (sp.length - 1) ways.length) s.1 s.2 x
def seekM (ways : List (List ByteArray)) (sp : List (Nat × Nat)) (x : ByteArray) : List (Nat × Nat) := match sp.getLast? with
  | some s => if s.1 = s.2 then sp else sp.dropLast ++ [(seekP ways sp s x, s.2)]
  | none => sp
def seekB (ways : List (List ByteArray)) (sp : List (Nat × Nat)) (x : ByteArray) : Bool := match sp.getLast? with
  | some s => if s.1 = s.2 then false else !decide (seekP ways sp s x = s.2)
  | none => false
theorem nextM_snoc (pre : List (Nat × Nat)) (f t : Nat) : nextM (pre ++ [(f, t)]) = if f = t then pre ++ [(f, t)] else pre ++ [(f + 1, t)] := by simp [nextM]
theorem nextB_snoc (pre : List (Nat × Nat)) (f t : Nat) : nextB (pre ++ [(f, t)]) = if f = t then false else !decide (f + 1 = t) := by simp [nextB]
theorem seekM_snoc (ways : List (List ByteArray)) (pre : List (Nat × Nat)) (f t : Nat) (x : ByteArray) : seekM ways (pre ++ [(f, t)]) x = if f = t then pre ++ [(f, t)] else pre ++ [(skP (keysM ways pre.length ways.length) f t x, t)] := by simp [seekM, seekP]
theorem seekB_snoc (ways : List (List ByteArray)) (pre : List (Nat × Nat)) (f t : Nat) (x : ByteArray) : seekB ways (pre ++ [(f, t)]) x = if f = t then false else !decide (skP (keysM ways pre.length ways.length) f t x = t) := by simp [seekB, seekP]
/-- What a call of a cursor brings about. -/
def StepPost (lo pc pt : Nat) (rb : Option Nat) (sp' : List (Nat × Nat)) (b : Bool) (w : World) (e : Ending) (w' : World) : Prop := ∃ rb', e = .returned (.bool b) ∧ CurV w' lo pc pt rb' sp' ∧ ButS (CurB pc rb) w w' ∧ ∀ g, rb' = some g → rb = some g ∨ w.heap.size ≤ g
theorem StepPost.same {lo pc pt : Nat} {rb : Option Nat} {sp : List (Nat × Nat)} {b : Bool} {w : World} {e : Ending} {w' : World} (h : CurV w lo pc pt rb sp) (he : e = .returned (.bool b)) (hw : Ext w w') : StepPost lo pc pt rb sp b w e w' := ⟨rb, he, h.ext hw, (ButS.refl _ w).ext hw, fun _ h => .inl h⟩
theorem snoc_cases {α : Type} (l : List α) : l = [] ∨ ∃ pre x, l = pre ++ [x] := by
  rcases l.eq_nil_or_concat with rfl | ⟨pre, x, e⟩
  · exact .inl rfl
  · exact .inr ⟨pre, x, by rw [e, List.concat_eq_append]⟩
theorem CurOk.st {d : Nat} {ways : List (List ByteArray)} {sp : List (Nat × Nat)} (h : CurOk d ways sp) (hne : sp ≠ []) : ∃ A B, CurSt d ways sp A B := by
  rcases h with h | h
  · exact absurd h hne
  · exact h
theorem CurFacts.small {d : Nat} {ways : List (List ByteArray)} {pre : List (Nat × Nat)} {f t A B : Nat} (F : CurFacts d ways pre f t A B) : t ≤ ways.length := by
  have h1 := F.top
  have h2 := wid_mono ways pre.length F.seg.top
  have h3 := wid_le ways pre.length ways.length
  omega
section
variable {w : World} {lo pc pt d : Nat} {ways : List (List ByteArray)} {rb : Option Nat} {sp : List (Nat × Nat)}
theorem s_up (h : CurV w lo pc pt rb sp) :
    Calls Tryz.prog 29 #[.pointer (some ⟨pc, 0, none⟩)] w (StepPost lo pc pt rb sp.dropLast (!sp.isEmpty) w) := by
  rcases snoc_cases sp with rfl | ⟨pre, ⟨f, t⟩, rfl⟩
  · exact (c_up_no pc pt lo rb w h).mono fun e w' ⟨h1, h2⟩ => StepPost.same h h1 (by rw [h2]; exact Below.refl _ _)
  · obtain ⟨g, c, rfl, _⟩ := h.last
    rw [List.dropLast_concat]
    refine (c_up pc pt lo g pre f t w h).mono fun e w' ⟨h1, h2, h3⟩ => ⟨some g, ?_, h2, h3, fun _ h => .inl h⟩
    rw [h1]
    simp
theorem s_next (h : CurV w lo pc pt rb sp) (hw : Ways d ways) (hc : CurOk d ways sp) (hn : ways.length ≤ 1000000) :
    Calls Tryz.prog 31 #[.pointer (some ⟨pc, 0, none⟩)] w (StepPost lo pc pt rb (nextM sp) (nextB sp) w) := by
  rcases snoc_cases sp with rfl | ⟨pre, ⟨f, t⟩, rfl⟩
  · exact (c_next_no pc pt lo rb [] w h (.inl rfl)).mono fun e w' ⟨h1, h2⟩ => StepPost.same h h1 h2
  · rw [nextM_snoc, nextB_snoc]
    by_cases hft : f = t
    · rw [if_pos hft, if_pos hft]
      exact (c_next_no pc pt lo rb _ w h (.inr (by rw [endB_snoc, decide_eq_true hft]))).mono fun e w' ⟨h1, h2⟩ => StepPost.same h h1 h2
    · rw [if_neg hft, if_neg hft]
      obtain ⟨A, B, hs⟩ := hc.st (by simp)
      have F := hs.facts hw pre f t rfl
      obtain ⟨g, c, rfl, _⟩ := h.last
      exact (c_next pc pt lo g pre f t w h (by have := F.le; omega) (by have := F.small; omega)).mono fun e w' ⟨h1, h2, h3⟩ => ⟨some g, h1, h2, h3, fun _ h => .inl h⟩
theorem s_seek (x : ByteArray) (h : CurV w lo pc pt rb sp) (ht : TrieV w pt d ways) (hw : Ways d ways) (hc : CurOk d ways sp) (hn : ways.length ≤ 1000000) :
    Calls Tryz.prog 33 #[.pointer (some ⟨pc, 0, none⟩), .string x] w (StepPost lo pc pt rb (seekM ways sp x) (seekB ways sp x) w) := by
  rcases snoc_cases sp with rfl | ⟨pre, ⟨f, t⟩, rfl⟩
  · exact (c_seek_no pc pt lo rb [] x w h (.inl rfl)).mono fun e w' ⟨h1, h2⟩ => StepPost.same h h1 h2
  · rw [seekM_snoc, seekB_snoc]
    by_cases hft : f = t
    · rw [if_pos hft, if_pos hft]
      exact (c_seek_no pc pt lo rb _ x w h (.inr (by rw [endB_snoc, decide_eq_true hft]))).mono fun e w' ⟨h1, h2⟩ => StepPost.same h h1 h2
    · rw [if_neg hft, if_neg hft]
      obtain ⟨A, B, hs⟩ := hc.st (by simp)
      have F := hs.facts hw pre f t rfl
      obtain ⟨g, c, rfl, _⟩ := h.last
      exact (c_seekC pc pt lo g d ways pre f t A B x w h ht hw F (by have := F.le; omega) hn _ rfl).mono fun e w' ⟨h1, h2, h3⟩ => ⟨some g, h1, h2, h3, fun _ h => .inl h⟩
theorem s_open (h : CurV w lo pc pt rb sp) (ht : TrieV w pt d ways) (hw : Ways d ways) (hc : CurOk d ways sp) (hd : d ≤ 64) (hn : ways.length ≤ 1000000) :
    Calls Tryz.prog 27 #[.pointer (some ⟨pc, 0, none⟩)] w (StepPost lo pc pt rb (openM d ways sp) (mayOpen d ways sp) w) := by
  unfold openM
  cases hm : mayOpen d ways sp with
  | false =>
    rw [if_neg (by simp)]
    exact (c_open_no pc pt lo d ways rb sp w h ht hm).mono fun e w' ⟨h1, h2⟩ => StepPost.same h h1 h2
  | true =>
    rw [if_pos rfl]
    have hm2 := hm
    unfold mayOpen at hm2
    simp only [Bool.and_eq_true, Bool.not_eq_true', decide_eq_false_iff_not] at hm2
    obtain ⟨⟨m1, m2⟩, m3⟩ := hm2
    rcases snoc_cases sp with rfl | ⟨pre, ⟨f, t⟩, rfl⟩
    · have hd0 : 0 < d := by
        rcases Nat.eq_zero_or_pos d with e | e
        · exact absurd e.symm m2
        · exact e
      exact (c_open_nil pc pt lo d ways rb w h ht hd0 (by omega)).mono fun e w' ⟨h1, g, h2, h3, h4⟩ => ⟨some g, h1, h2, h3, fun _ e => by cases e; exact h4⟩
    · obtain ⟨A, B, hs⟩ := hc.st (by simp)
      have F := hs.facts hw pre f t rfl
      obtain ⟨g, c, rfl, _⟩ := h.last
      rw [endB_snoc] at m1
      have hft : f ≠ t := by simpa using m1
      have hl : (pre ++ [(f, t)]).length = pre.length + 1 := by simp
      rw [openS_snoc]
      exact (c_open pc pt lo g d ways pre f t A B w h ht F (by have := F.le; omega) (by have := F.dep; omega) hd hn).mono fun e w' ⟨h1, g', h2, h3, h4⟩ => ⟨some g', h1, h2, h3, fun _ e => by cases e; exact h4⟩
end
theorem CurOk.opened {d : Nat} {ways : List (List ByteArray)} (hw : Ways d ways) {sp : List (Nat × Nat)} (h : CurOk d ways sp) : CurOk d ways (openM d ways sp) := by
  unfold openM
  split
  · rename_i hm
    exact h.open_ok hw hm
  · exact h
theorem CurOk.upped {d : Nat} {ways : List (List ByteArray)} {sp : List (Nat × Nat)} (h : CurOk d ways sp) : CurOk d ways sp.dropLast := by
  rcases snoc_cases sp with rfl | ⟨pre, s, rfl⟩
  · exact .inl rfl
  · rw [List.dropLast_concat]
    obtain ⟨A, B, hs⟩ := h.st (by simp)
    rcases hs.pop pre s rfl with e | ⟨pre0, f, t, A0, B0, _, _, h0, _⟩
    · exact .inl e
    · exact .inr ⟨A0, B0, h0⟩
theorem CurOk.nexted {d : Nat} {ways : List (List ByteArray)} (hw : Ways d ways) {sp : List (Nat × Nat)} (h : CurOk d ways sp) : CurOk d ways (nextM sp) := by
  rcases snoc_cases sp with rfl | ⟨pre, ⟨f, t⟩, rfl⟩
  · exact .inl rfl
  · rw [nextM_snoc]
    split
    · exact h
    · rename_i hft
      obtain ⟨A, B, hs⟩ := h.st (by simp)
      have F := hs.facts hw pre f t rfl
      exact .inr ⟨A, B, hs.move pre f t (f + 1) rfl (by have := F.ge; omega) (by have := F.le; omega)⟩
theorem CurFacts.seekIn {d : Nat} {ways : List (List ByteArray)} {pre : List (Nat × Nat)} {f t A B : Nat} (F : CurFacts d ways pre f t A B) (x : ByteArray) : f ≤ skP (keysM ways pre.length ways.length) f t x ∧ skP (keysM ways pre.length ways.length) f t x ≤ t := by
  have hb := wid_mono ways pre.length F.seg.top
  have := skP_spec (ks := keysM ways pre.length ways.length) (f := f) (t := t) x F.le (by rw [keysM_len]; have := F.top; omega)
  exact ⟨this.1, this.2.1⟩
theorem CurOk.seeked {d : Nat} {ways : List (List ByteArray)} (hw : Ways d ways) {sp : List (Nat × Nat)} (h : CurOk d ways sp) (x : ByteArray) : CurOk d ways (seekM ways sp x) := by
  rcases snoc_cases sp with rfl | ⟨pre, ⟨f, t⟩, rfl⟩
  · exact .inl rfl
  · rw [seekM_snoc]
    split
    · exact h
    · obtain ⟨A, B, hs⟩ := h.st (by simp)
      have F := hs.facts hw pre f t rfl
      obtain ⟨s1, s2⟩ := F.seekIn x
      exact .inr ⟨A, B, hs.move pre f t _ rfl (by have := F.ge; omega) s2⟩
/-- One call by its kind. -/
def stepM (d : Nat) (ways : List (List ByteArray)) (sp : List (Nat × Nat)) (o : Int × ByteArray) : List (Nat × Nat) := if o.1 = 1 then openM d ways sp else if o.1 = 2 then sp.dropLast else if o.1 = 3 then nextM sp else if o.1 = 4 then seekM ways sp o.2 else sp
def runM (d : Nat) (ways : List (List ByteArray)) (ops : List (Int × ByteArray)) : List (Nat × Nat) := ops.foldl (stepM d ways) []
theorem runM_snoc (d : Nat) (ways : List (List ByteArray)) (ops : List (Int × ByteArray)) (o : Int × ByteArray) : runM d ways (ops ++ [o]) = stepM d ways (runM d ways ops) o := by simp [runM]
theorem stepM_ok {d : Nat} {ways : List (List ByteArray)} (hw : Ways d ways) {sp : List (Nat × Nat)} (h : CurOk d ways sp) (o : Int × ByteArray) : CurOk d ways (stepM d ways sp o) := by
  unfold stepM
  split
  · exact h.opened hw
  · split
    · exact h.upped
    · split
      · exact h.nexted hw
      · split
        · exact h.seeked hw _
        · exact h
theorem runM_ok {d : Nat} {ways : List (List ByteArray)} (hw : Ways d ways) (ops : List (Int × ByteArray)) : CurOk d ways (runM d ways ops) := by
  have : ∀ (n : Nat) (ops : List (Int × ByteArray)), ops.length = n → CurOk d ways (runM d ways ops) := by
    intro n
    induction n with
    | zero => intro ops h; rw [List.eq_nil_of_length_eq_zero h]; exact .inl rfl
    | succ n ih =>
      intro ops h
      rcases snoc_cases ops with rfl | ⟨pre, o, rfl⟩
      · exact .inl rfl
      · rw [runM_snoc]
        exact stepM_ok hw (ih pre (by simpa using h)) o
  exact this _ ops rfl
end Go.Proofs.YthjpfplebbnbpaaGreat
