/- The walks of a cursor's Key, Count, Keys. -/
import Derived.Test.YthjpfplebbnbpaaGreatCur2
namespace Go.Proofs.YthjpfplebbnbpaaGreat
open Go.ChangeShapes Go.WideShapes Go.ChangeAt Go.RowKit
theorem CurSt.each {d : Nat} {ways : List (List ByteArray)} (hw : Ways d ways) {sp : List (Nat × Nat)} {A B : Nat} (h : CurSt d ways sp A B) (he : endB sp = false) : ∀ (i : Nat) (s : Nat × Nat), sp[i]? = some s → i < d ∧ s.1 < wid ways i ways.length := by
  induction h with
  | one f0 hd hN hf =>
    intro i s hs
    have e2 : endB (([] : List (Nat × Nat)) ++ [(f0, wid ways 0 ways.length)]) = false := he
    rw [endB_snoc] at e2
    have hne : f0 ≠ wid ways 0 ways.length := by simpa using e2
    cases i with
    | zero => cases hs; exact ⟨hd, by show f0 < _; omega⟩
    | succ i => simp at hs
  | more pre0 f0 t0 A0 B0 f2 h0 hlt hd h1 h2 ih =>
    intro i s hs
    have F := h0.facts hw pre0 f0 t0 rfl
    have hb := wid_mono ways pre0.length F.seg.top
    have hj : f0 < wid ways pre0.length ways.length := by have := F.top; omega
    rw [endB_snoc] at he
    have hne : f2 ≠ wid ways (pre0.length + 1) (st ways pre0.length (f0 + 1)) := by simpa using he
    by_cases hi : i < (pre0 ++ [(f0, t0)]).length
    · rw [List.getElem?_append_left hi] at hs
      exact ih (by rw [endB_snoc]; simp; omega) i s hs
    · have hl := (List.getElem?_eq_some_iff.1 hs).1
      rw [List.length_append, List.length_singleton] at hl
      have hi2 : i = (pre0 ++ [(f0, t0)]).length := by omega
      rw [List.getElem?_append_right (by omega), hi2, Nat.sub_self] at hs
      cases hs
      have hl2 : (pre0 ++ [(f0, t0)]).length = pre0.length + 1 := by simp
      rw [hi2, hl2]
      have := wid_mono ways (pre0.length + 1) (st_le ways pre0.length (f0 + 1))
      exact ⟨hd, by show f2 < _; omega⟩
theorem c_key_no (pc pt lo : Nat) (rb : Option Nat) (sp : List (Nat × Nat)) (w : World) (h : CurV w lo pc pt rb sp) (hn : sp = [] ∨ endB sp = true) :
    Calls Tryz.prog 38 #[.pointer (some ⟨pc, 0, none⟩)] w fun e w' => e = .returned (.string ⟨#[]⟩) ∧ Ext w w' := by
  rcases sp.eq_nil_or_concat with rfl | ⟨pre, ⟨f, t⟩, e⟩
  · have L := Lib.hid (c_last_nil pc pt lo rb w h)
    clear h hn
    go_enter Tryz.func38, Tryz.ntmps38
    go_wp2_with (go_at_call 61; (with_reducible refine L.out.mono ?_); rintro e w1 ⟨rfl, hw1⟩; obtain rfl := hw1.symm)
    go_returns
    exact ⟨rfl, Below.refl _ _⟩
  · rw [List.concat_eq_append] at e
    subst e
    have hn2 : endB (pre ++ [(f, t)]) = true := by
      rcases hn with hn | hn
      · simp at hn
      · exact hn
    obtain ⟨g, c, rfl, _⟩ := h.last
    have L := Lib.hid (c_last pc pt lo g pre f t w h)
    have H := Lib.hid h
    have AE : Hid (∀ w1, Ext w w1 → Calls Tryz.prog 40 #[.pointer (some ⟨pc, 0, none⟩)] w1 fun e w' => e = .returned (.bool true) ∧ Ext w w') := fun w1 h1 => by
      have A := c_atEnd pc pt lo (some g) (pre ++ [(f, t)]) w1 (H.out.ext h1)
      rw [hn2] at A
      exact A.mono fun e w' ⟨r1, q, r2⟩ => ⟨r1, by rw [r2]; exact ext_drewN h1 q⟩
    clear h hn hn2
    go_enter Tryz.func38, Tryz.ntmps38
    go_wp2_with (first
      | (go_at_call 61; (with_reducible refine L.out.mono ?_); rintro e w1 ⟨rfl, q1, hw1⟩; have E1 : Ext w w1 := (by rw [hw1]; exact ext_drewN (Below.refl _ _) q1); clear hw1)
      | (go_at_call 40; (with_reducible refine (AE.out _ E1).mono ?_); rintro e w2 ⟨rfl, E2⟩))
    go_returns
    exact ⟨rfl, E2⟩
/-- What the walks of Key and Count read. -/
theorem TrieV.reads {w : World} {pt d : Nat} {ways : List (List ByteArray)} {pre : List (Nat × Nat)} {f t A B : Nat} (ht : TrieV w pt d ways) (hf : CurFacts d ways pre f t A B) (hft : f < t) : ∃ gl kb ko kc, w.cell? ⟨pt, 0, none⟩ = some (.slice (some ⟨gl, 0, none⟩) d d) ∧ w.cell? ⟨gl, pre.length * 2, none⟩ = some (.slice (some ⟨kb, ko, none⟩) (wid ways pre.length ways.length) kc) ∧ w.cell? ⟨kb, ko + f, none⟩ = some (.string (keyAt ways pre.length (st ways pre.length f))) ∧ f < wid ways pre.length ways.length := by
  obtain ⟨gl, h0, h1⟩ := ht.keys
  obtain ⟨ka, kc, z1, z2, _, _⟩ := h1 pre.length hf.dep
  have wb := wid_mono ways pre.length hf.seg.top
  have hfN : f < wid ways pre.length ways.length := by have := hf.top; omega
  obtain ⟨y, kb, ko, hy, rfl, hc⟩ := z2.2.at hfN
  rw [keysM_at ways _ f hfN] at hy
  cases hy
  exact ⟨gl, kb, ko, kc, h0, z1, by simpa [strAt] using hc, hfN⟩
set_option maxRecDepth 100000 in
theorem c_key (pc pt lo g d : Nat) (ways : List (List ByteArray)) (pre : List (Nat × Nat)) (f t A B : Nat) (w : World) (h : CurV w lo pc pt (some g) (pre ++ [(f, t)])) (ht : TrieV w pt d ways) (hf : CurFacts d ways pre f t A B) (hft : f < t) :
    Calls Tryz.prog 38 #[.pointer (some ⟨pc, 0, none⟩)] w fun e w' => e = .returned (.string (keyAt ways pre.length (st ways pre.length f))) ∧ Ext w w' := by
  have L := Lib.hid (c_last pc pt lo g pre f t w h)
  have H := Lib.hid h
  obtain ⟨g', c, e, y0, y1, _, hc, z0, z1, z2, hcm⟩ := h.last
  cases e
  have AE : Hid (∀ w1, Ext w w1 → Calls Tryz.prog 40 #[.pointer (some ⟨pc, 0, none⟩)] w1 fun e w' => e = .returned (.bool false) ∧ Ext w w') := fun w1 h1 => by
    have A := c_atEnd pc pt lo (some g) (pre ++ [(f, t)]) w1 (H.out.ext h1)
    rw [endB_snoc, show decide (f = t) = false by simp; omega] at A
    exact A.mono fun e w' ⟨r1, q, r2⟩ => ⟨r1, by rw [r2]; exact ext_drewN h1 q⟩
  obtain ⟨gl, kb, ko, kc, t0, t1, t2, hfN⟩ := ht.reads hf hft
  have hdep := hf.dep
  obtain ⟨x, hx⟩ : ∃ x, keyAt ways pre.length (st ways pre.length f) = x := ⟨_, rfl⟩
  rw [hx] at t2 ⊢
  obtain ⟨M, hM⟩ : ∃ M, wid ways pre.length ways.length = M := ⟨_, rfl⟩
  rw [hM] at t1 hfN
  obtain ⟨k, hk⟩ : ∃ k, pre.length = k := ⟨_, rfl⟩
  rw [hk] at L y1 z0 z1 z2 hc t1 hdep
  have hcm2 : c ≤ 9223372036854775807 := hcm
  have r1 : IntKind.i64.wrap (k : Int) = (k : Int) := by rw [IntKind.wrap_i64]; omega
  have r2 : (k : Int) < (d : Int) := by omega
  have r3 : (f : Int) < (M : Int) := by omega
  clear h hft hx hf hk ht hcm hM
  go_enter Tryz.func38, Tryz.ntmps38
  go_upto_region 4 with (first
    | (go_at_call 61; (with_reducible refine L.out.mono ?_); rintro e w1 ⟨rfl, q1, hw1⟩; have E1 : Ext w w1 := (by rw [hw1]; exact ext_drewN (Below.refl _ _) q1); clear hw1)
    | (go_at_call 40; (with_reducible refine (AE.out _ E1).mono ?_); rintro e w2 ⟨rfl, E2⟩))
  have k0 := keep E2 z0
  have k3 := keep E2 y0
  have k4 := keep E2 y1
  have k5 := keep E2 t0
  have k6 := keep E2 t1
  have k7 := keep E2 t2
  go_quiet (fail)
  go_wp2
  go_returns
  exact ⟨rfl, ext_drewN E2 _⟩
theorem c_countC_end (pc pt lo : Nat) (rb : Option Nat) (sp : List (Nat × Nat)) (w : World) (h : CurV w lo pc pt rb sp) (hn : endB sp = true) :
    Calls Tryz.prog 43 #[.pointer (some ⟨pc, 0, none⟩)] w fun e w' => e = .returned (.int .i64 0) ∧ Ext w w' := by
  rcases sp.eq_nil_or_concat with rfl | ⟨pre, ⟨f, t⟩, e⟩
  · simp [endB_nil] at hn
  · rw [List.concat_eq_append] at e
    subst e
    obtain ⟨g, c, rfl, _⟩ := h.last
    have L := Lib.hid (c_last pc pt lo g pre f t w h)
    have H := Lib.hid h
    have AE : Hid (∀ w1, Ext w w1 → Calls Tryz.prog 40 #[.pointer (some ⟨pc, 0, none⟩)] w1 fun e w' => e = .returned (.bool true) ∧ Ext w w') := fun w1 h1 => by
      have A := c_atEnd pc pt lo (some g) (pre ++ [(f, t)]) w1 (H.out.ext h1)
      rw [hn] at A
      exact A.mono fun e w' ⟨r1, q, r2⟩ => ⟨r1, by rw [r2]; exact ext_drewN h1 q⟩
    clear h hn
    go_enter Tryz.func43, Tryz.ntmps43
    go_wp2_with (first
      | (go_at_call 61; (with_reducible refine L.out.mono ?_); rintro e w1 ⟨rfl, q1, hw1⟩; have E1 : Ext w w1 := (by rw [hw1]; exact ext_drewN (Below.refl _ _) q1); clear hw1)
      | (go_at_call 40; (with_reducible refine (AE.out _ E1).mono ?_); rintro e w2 ⟨rfl, E2⟩))
    go_returns
    exact ⟨rfl, E2⟩
theorem c_countC_nil (pc pt lo d : Nat) (ways : List (List ByteArray)) (rb : Option Nat) (w : World) (h : CurV w lo pc pt rb []) (ht : TrieV w pt d ways) :
    Calls Tryz.prog 43 #[.pointer (some ⟨pc, 0, none⟩)] w fun e w' => e = .returned (.int .i64 (ways.length : Nat)) ∧ Ext w w' := by
  have L := Lib.hid (c_last_nil pc pt lo rb w h)
  obtain ⟨a, c, h0, _⟩ := h.cells
  have H := Lib.hid h
  have AE : Hid (Calls Tryz.prog 40 #[.pointer (some ⟨pc, 0, none⟩)] w fun e w' => e = .returned (.bool false) ∧ Ext w w') := by
    have A := c_atEnd pc pt lo rb [] w h
    rw [endB_nil] at A
    exact A.mono fun e w' ⟨r1, q, r2⟩ => ⟨r1, by rw [r2]; exact ext_drewN (Below.refl _ _) q⟩
  have HT := Lib.hid ht
  clear h ht
  go_enter Tryz.func43, Tryz.ntmps43
  go_wp2_with (first
    | (go_at_call 61; (with_reducible refine L.out.mono ?_); rintro e w1 ⟨rfl, hw1⟩; obtain rfl := hw1.symm)
    | (go_at_call 40; (with_reducible refine AE.out.mono ?_); rintro e w2 ⟨rfl, E2⟩; have k0 := keep E2 h0)
    | (go_at_call 16; (with_reducible refine (c_lenT pt d ways _ (HT.out.ext E2)).mono ?_); rintro e w3 ⟨rfl, hw3⟩; obtain rfl := hw3.symm))
  go_returns
  exact ⟨rfl, E2⟩
set_option maxRecDepth 100000 in
theorem c_countC (pc pt lo g d : Nat) (ways : List (List ByteArray)) (pre : List (Nat × Nat)) (f t A B : Nat) (w : World) (h : CurV w lo pc pt (some g) (pre ++ [(f, t)])) (ht : TrieV w pt d ways) (hw : Ways d ways) (hf : CurFacts d ways pre f t A B) (hft : f < t) (hd : d ≤ 64) (hn : ways.length ≤ 1000000) :
    Calls Tryz.prog 43 #[.pointer (some ⟨pc, 0, none⟩)] w fun e w' => e = .returned (.int .i64 (cntW ways pre.length f : Nat)) ∧ Ext w w' := by
  have L := Lib.hid (c_last pc pt lo g pre f t w h)
  have H := Lib.hid h
  obtain ⟨g', c, e, y0, y1, _, hc, z0, z1, z2, hcm⟩ := h.last
  cases e
  have AE : Hid (∀ w1, Ext w w1 → Calls Tryz.prog 40 #[.pointer (some ⟨pc, 0, none⟩)] w1 fun e w' => e = .returned (.bool false) ∧ Ext w w') := fun w1 h1 => by
    have A := c_atEnd pc pt lo (some g) (pre ++ [(f, t)]) w1 (H.out.ext h1)
    rw [endB_snoc, show decide (f = t) = false by simp; omega] at A
    exact A.mono fun e w' ⟨r1, q, r2⟩ => ⟨r1, by rw [r2]; exact ext_drewN h1 q⟩
  have wb := wid_mono ways pre.length hf.seg.top
  have htop := hf.top
  have WY : Hid (∀ w2, Ext w w2 → Calls Tryz.prog 46 #[.pointer (some ⟨pt, 0, none⟩), .int .i64 (pre.length : Int), .int .i64 (f : Int)] w2 fun e w' => e = .returned (.int .i64 (cntW ways pre.length f : Nat)) ∧ Ext w w') := fun w2 h2 => (c_ways pt d ways pre.length f w2 (ht.ext h2) hw hf.dep (by omega) hd hn).mono fun e w' ⟨r1, r2⟩ => ⟨r1, ext_trans h2 r2⟩
  obtain ⟨x, hx⟩ : ∃ x, cntW ways pre.length f = x := ⟨_, rfl⟩
  rw [hx] at WY ⊢
  obtain ⟨k, hk⟩ : ∃ k, pre.length = k := ⟨_, rfl⟩
  rw [hk] at L y1 z0 z1 z2 hc WY
  have hcm2 : c ≤ 9223372036854775807 := hcm
  have r1 : IntKind.i64.wrap (k : Int) = (k : Int) := by rw [IntKind.wrap_i64]; omega
  clear h hft hx hf hk ht hcm wb htop
  go_enter Tryz.func43, Tryz.ntmps43
  go_upto_region 2 with (first
    | (go_at_call 61; (with_reducible refine L.out.mono ?_); rintro e w1 ⟨rfl, q1, hw1⟩; have E1 : Ext w w1 := (by rw [hw1]; exact ext_drewN (Below.refl _ _) q1); clear hw1)
    | (go_at_call 40; (with_reducible refine (AE.out _ E1).mono ?_); rintro e w2 ⟨rfl, E2⟩))
  have k0 := keep E2 z0
  have k3 := keep E2 y0
  have k4 := keep E2 y1
  go_still_tail 14, (by kernel_rfl)
  change wpList _ _ _ _ _ w2.drew
  go_wp2_with (go_at_call 46; (with_reducible refine (WY.out _ (ext_drew E2)).mono ?_); rintro e w3 ⟨rfl, E3⟩)
  go_returns
  exact ⟨rfl, E3⟩
end Go.Proofs.YthjpfplebbnbpaaGreat
