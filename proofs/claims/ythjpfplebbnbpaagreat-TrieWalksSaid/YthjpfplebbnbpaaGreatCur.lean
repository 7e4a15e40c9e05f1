/- A cursor in memory; the walks of Walk, last, At, AtEnd, Up, Next. -/
import Derived.Test.YthjpfplebbnbpaaGreatCst
namespace Go.Proofs.YthjpfplebbnbpaaGreat
open Go.ChangeShapes Go.WideShapes Go.ChangeAt Go.RowKit
def spV (sp : List (Nat × Nat)) : List Value := sp.flatMap fun s => [.int .i64 (s.1 : Nat), .int .i64 (s.2 : Nat)]
theorem spV_len (sp : List (Nat × Nat)) : (spV sp).length = sp.length * 2 := by
  induction sp with
  | nil => rfl
  | cons s sp ih => unfold spV at *; rw [List.flatMap_cons, List.length_append, ih, List.length_cons]; simp; omega
theorem spV_snoc (pre : List (Nat × Nat)) (s : Nat × Nat) : spV (pre ++ [s]) = spV pre ++ [.int .i64 (s.1 : Nat), .int .i64 (s.2 : Nat)] := by simp [spV]
theorem spV_at (sp : List (Nat × Nat)) (i : Nat) (s : Nat × Nat) (h : sp[i]? = some s) : (spV sp)[i * 2]? = some (.int .i64 (s.1 : Nat)) ∧ (spV sp)[i * 2 + 1]? = some (.int .i64 (s.2 : Nat)) := by
  induction sp generalizing i with
  | nil => simp at h
  | cons a sp ih =>
    unfold spV at *
    cases i with
    | zero =>
      rw [List.getElem?_cons_zero] at h
      cases h
      simp
    | succ i =>
      rw [List.getElem?_cons_succ] at h
      have := ih i h
      rw [show (i + 1) * 2 = i * 2 + 1 + 1 by omega]
      simpa using this
/-- The cursor at block pc, in the trie at pt: its spans lie in a row of its own, in block rb. -/
structure CurV (w : World) (lo pc pt : Nat) (rb : Option Nat) (sp : List (Nat × Nat)) : Prop where
  top : ∃ a c, w.heap[pc]? = some (.cells #[.pointer (some ⟨pt, 0, none⟩), .slice a sp.length c] 35 (0, 0)) ∧ w.ownsRow lo 81 2 (.slice a sp.length c) sp.length (spV sp) ∧ (Value.slice a sp.length c).ownBlock = rb
  lo : lo ≤ pc
theorem CurV.cells {w : World} {lo pc pt : Nat} {rb : Option Nat} {sp : List (Nat × Nat)} (h : CurV w lo pc pt rb sp) : ∃ a c, w.cell? ⟨pc, 0, none⟩ = some (.pointer (some ⟨pt, 0, none⟩)) ∧ w.cell? ⟨pc, 1, none⟩ = some (.slice a sp.length c) ∧ w.frozen? ⟨pc, 1, none⟩ = false ∧ pc < w.heap.size ∧ sp.length ≤ c := by
  obtain ⟨⟨a, c, h1, h2, h3⟩, _⟩ := h
  refine ⟨a, c, by simp [World.cell?, h1], by simp [World.cell?, h1], by simp [World.frozen?, h1], (Array.getElem?_eq_some_iff.1 h1).1, ?_⟩
  exact (cap_of_own h2).1
theorem CurV.ne {w : World} {lo pc pt : Nat} {rb : Option Nat} {sp : List (Nat × Nat)} (h : CurV w lo pc pt rb sp) {g : Nat} (hg : rb = some g) : g ≠ pc ∧ lo ≤ g ∧ g < w.heap.size := by
  obtain ⟨⟨a, c, h1, h2, h3⟩, _⟩ := h
  rw [hg] at h3
  obtain ⟨l1, l2⟩ := h2.lt g h3
  refine ⟨?_, l1, l2⟩
  rcases h2.2 with ⟨e, _⟩ | ⟨g', c', cur, e, _, hg', _⟩
  · rw [e] at h3; cases h3
  · rw [e] at h3
    cases h3
    rintro rfl
    rw [h1] at hg'
    cases hg'
theorem CurV.last {w : World} {lo pc pt : Nat} {rb : Option Nat} {pre : List (Nat × Nat)} {f t : Nat} (h : CurV w lo pc pt rb (pre ++ [(f, t)])) : ∃ g c, rb = some g ∧ w.cell? ⟨pc, 0, none⟩ = some (.pointer (some ⟨pt, 0, none⟩)) ∧ w.cell? ⟨pc, 1, none⟩ = some (.slice (some ⟨g, 0, none⟩) (pre.length + 1) c) ∧ w.frozen? ⟨pc, 1, none⟩ = false ∧ pre.length + 1 ≤ c ∧ w.cell? ⟨g, pre.length * 2, none⟩ = some (.int .i64 (f : Nat)) ∧ w.cell? ⟨g, pre.length * 2 + 1, none⟩ = some (.int .i64 (t : Nat)) ∧ w.frozen? ⟨g, pre.length * 2, none⟩ = false ∧ c ≤ maxLen := by
  obtain ⟨⟨a, c, h1, h2, h3⟩, _⟩ := h
  have hl : (pre ++ [(f, t)]).length = pre.length + 1 := by simp
  rw [hl] at h1 h2 h3
  rcases h2.2 with ⟨e, e2⟩ | ⟨g, c', cur, e, hb, hg, hnc, hcm, hcs, ht⟩
  · omega
  · cases e
    obtain ⟨s1, s2⟩ := spV_at (pre ++ [(f, t)]) pre.length (f, t) (by simp)
    have c1 := h2.cells (g := g) rfl _ _ s1
    have c2 := h2.cells (g := g) rfl _ _ s2
    rw [Addr.add_lit, Nat.zero_add] at c1 c2
    exact ⟨g, c, h3.symm, by simp [World.cell?, h1], by simp [World.cell?, h1], by simp [World.frozen?, h1], hnc, c1, c2, by simp [World.frozen?, hg], hcm⟩
theorem CurV.ext {w w' : World} {lo pc pt : Nat} {rb : Option Nat} {sp : List (Nat × Nat)} (h : CurV w lo pc pt rb sp) (e : Ext w w') : CurV w' lo pc pt rb sp := by
  obtain ⟨⟨a, c, h1, h2, h3⟩, h4⟩ := h
  exact ⟨⟨a, c, (e.block pc (Array.getElem?_eq_some_iff.1 h1).1).trans h1, up_ext h2 e, h3⟩, h4⟩
/-- The blocks of a cursor. -/
def CurB (pc : Nat) (rb : Option Nat) (b : Nat) : Prop := b = pc ∨ rb = some b
theorem CurV.buts {w w' : World} {lo pc pt : Nat} {rb : Option Nat} {sp : List (Nat × Nat)} {S : Nat → Prop} (h : CurV w lo pc pt rb sp) (e : ButS S w w') (hs : ∀ b, CurB pc rb b → ¬ S b) : CurV w' lo pc pt rb sp := by
  obtain ⟨⟨a, c, h1, h2, h3⟩, h4⟩ := h
  exact ⟨⟨a, c, (e.block pc (Array.getElem?_eq_some_iff.1 h1).1 (hs pc (.inl rfl))).trans h1, e.own h2 (fun b hb => hs b (.inr (by rw [← h3]; exact hb))), h3⟩, h4⟩
/-- The last span's beginning is written. -/
theorem CurV.move {w : World} {lo pc pt g : Nat} {pre : List (Nat × Nat)} {f t : Nat} (h : CurV w lo pc pt (some g) (pre ++ [(f, t)])) (f' : Nat) : CurV (w.setCell ⟨g, pre.length * 2, none⟩ (.int .i64 (f' : Nat))) lo pc pt (some g) (pre ++ [(f', t)]) ∧ ButS (CurB pc (some g)) w (w.setCell ⟨g, pre.length * 2, none⟩ (.int .i64 (f' : Nat))) := by
  have hne := (h.ne rfl).1
  obtain ⟨⟨a, c, h1, h2, h3⟩, h4⟩ := h
  have hl : (pre ++ [(f, t)]).length = pre.length + 1 := by simp
  have hl2 : (pre ++ [(f', t)]).length = pre.length + 1 := by simp
  rw [hl] at h1 h2 h3
  rcases h2.2 with ⟨e, e2⟩ | ⟨g', c', cur, e, hb, hg, hnc, hcm, hcs, ht⟩
  · omega
  · cases e
    have e3 : g = g' := (Option.some.inj h3).symm
    subst e3
    obtain ⟨k1, k2⟩ := h2.stored (pre.length * 2) (.int .i64 (f' : Nat))
    have e : (spV (pre ++ [(f, t)])).set (pre.length * 2) (.int .i64 (f' : Nat)) = spV (pre ++ [(f', t)]) := by
      rw [spV_snoc, spV_snoc, List.set_append_right _ _ (by rw [spV_len]; exact Nat.le_refl _), spV_len, Nat.sub_self]
      rfl
    rw [e] at k1
    refine ⟨⟨⟨some ⟨g, 0, none⟩, c, ?_, ?_, ?_⟩, h4⟩, (ButS.refl _ w).set (.inl (.inr rfl)) _ _⟩
    · rw [hl2, heap_setCell_other _ _ _ _ (fun e => hne e.symm)]
      exact h1
    · rw [hl2]
      exact k1
    · rw [hl2]
      rfl
theorem c_walk (pt d : Nat) (ways : List (List ByteArray)) (lo : Nat) (w : World) (h : TrieV w pt d ways) (hlo : lo ≤ w.heap.size) :
    Calls Tryz.prog 7 #[.pointer (some ⟨pt, 0, none⟩)] w fun e w' => e = .returned (.pointer (some ⟨w.heap.size, 0, none⟩)) ∧ CurV w' lo w.heap.size pt none [] ∧ Ext w w' := by
  have NO := Lib.hid (c_none pt d ways w h)
  clear h
  go_enter Tryz.func7, Tryz.ntmps7
  go_wp2_with (go_at_call 26; (with_reducible refine NO.out.mono ?_); rintro e w1 ⟨rfl, hw1⟩; obtain rfl := hw1.symm)
  go_returns
  exact ⟨rfl, ⟨⟨none, 0, heap_alloc_new w _, World.ownsRow_nil _ _ _ _, rfl⟩, hlo⟩, ext_alloc (Below.refl _ _) _⟩
theorem c_last_nil (pc pt lo : Nat) (rb : Option Nat) (w : World) (h : CurV w lo pc pt rb []) :
    Calls Tryz.prog 61 #[.pointer (some ⟨pc, 0, none⟩)] w fun e w' => e = .returned (.pointer none) ∧ w' = w := by
  obtain ⟨a, c, h0, h1, _⟩ := h.cells
  rw [List.length_nil] at h1
  clear h
  go_enter Tryz.func61, Tryz.ntmps61
  go_wp2
  go_returns
  exact ⟨rfl, rfl⟩
theorem c_last (pc pt lo g : Nat) (pre : List (Nat × Nat)) (f t : Nat) (w : World) (h : CurV w lo pc pt (some g) (pre ++ [(f, t)])) :
    Calls Tryz.prog 61 #[.pointer (some ⟨pc, 0, none⟩)] w fun e w' => e = .returned (.pointer (some ⟨g, pre.length * 2, none⟩)) ∧ ∃ q, w' = w.drewN q := by
  obtain ⟨g', c, e, h0, h1, _, hc, _, _, _, hcm⟩ := h.last
  cases e
  obtain ⟨k, hk⟩ : ∃ k, pre.length = k := ⟨_, rfl⟩
  rw [hk] at h1 hc ⊢
  have hcm2 : c ≤ 9223372036854775807 := hcm
  have q1 : ((k : Int) + 1 == 0) = false := beq_eq_false_iff_ne.2 (by omega)
  have r1 : IntKind.i64.wrap (k : Int) = (k : Int) := by rw [IntKind.wrap_i64]; omega
  have r2 : (k : Int) < (k : Int) + 1 := by omega
  clear h hk hcm
  go_enter Tryz.func61, Tryz.ntmps61
  go_wp2
  go_quiet (fail)
  go_wp2
  go_returns
  exact ⟨rfl, _, rfl⟩
theorem c_at (pc pt lo : Nat) (rb : Option Nat) (sp : List (Nat × Nat)) (w : World) (h : CurV w lo pc pt rb sp) :
    Calls Tryz.prog 36 #[.pointer (some ⟨pc, 0, none⟩)] w fun e w' => e = .returned (.int .i64 (sp.length : Nat)) ∧ w' = w := by
  obtain ⟨a, c, h0, h1, _⟩ := h.cells
  clear h
  go_enter Tryz.func36, Tryz.ntmps36
  go_wp2
  go_returns
  exact ⟨rfl, rfl⟩
theorem c_atEnd (pc pt lo : Nat) (rb : Option Nat) (sp : List (Nat × Nat)) (w : World) (h : CurV w lo pc pt rb sp) :
    Calls Tryz.prog 40 #[.pointer (some ⟨pc, 0, none⟩)] w fun e w' => e = .returned (.bool (endB sp)) ∧ ∃ q, w' = w.drewN q := by
  rcases sp.eq_nil_or_concat with rfl | ⟨pre, ⟨f, t⟩, e⟩
  · have L := Lib.hid (c_last_nil pc pt lo rb w h)
    clear h
    rw [endB_nil]
    go_enter Tryz.func40, Tryz.ntmps40
    go_wp2_with (go_at_call 61; (with_reducible refine L.out.mono ?_); rintro e w1 ⟨rfl, hw1⟩; obtain rfl := hw1.symm)
    go_quiet (fail)
    go_wp2
    go_returns
    exact ⟨rfl, _, rfl⟩
  · rw [List.concat_eq_append] at e
    subst e
    obtain ⟨g, c, rfl, h0, h1, _, _, z0, z1, _⟩ := h.last
    have L := Lib.hid (c_last pc pt lo g pre f t w h)
    rw [endB_snoc]
    obtain ⟨b, hb⟩ : ∃ b, decide (f = t) = b := ⟨_, rfl⟩
    have hb2 : ((f : Int) == (t : Int)) = b := by rw [← hb, Bool.eq_iff_iff]; simp; omega
    rw [hb]
    clear h hb
    go_enter Tryz.func40, Tryz.ntmps40
    go_wp2_with (go_at_call 61; (with_reducible refine L.out.mono ?_); rintro e w1 ⟨rfl, q1, hw1⟩; obtain rfl := hw1.symm)
    go_quiet (fail)
    go_wp2
    go_returns
    exact ⟨by first | rfl | (rw [hb2]), _, by rw [World.drewN_drewN]⟩
end Go.Proofs.YthjpfplebbnbpaaGreat
