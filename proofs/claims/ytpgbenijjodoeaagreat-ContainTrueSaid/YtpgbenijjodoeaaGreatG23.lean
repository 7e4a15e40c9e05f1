/- The walks of a cursor's Up, Next, Seek, Key, Count. -/
import Derived.Test.YtpgbenijjodoeaaGreatG22
namespace Go.Proofs.YtpgbenijjodoeaaGreat
open Go.ChangeShapes Go.WideShapes Go.ChangeAt Go.RowKit
theorem CurV.pop {w : World} {lo pc pt g c : Nat} {pre : List (Nat × Nat)} {s : Nat × Nat} (h : CurV w lo pc pt (some g) (pre ++ [s])) (hc : w.cell? ⟨pc, 1, none⟩ = some (.slice (some ⟨g, 0, none⟩) (pre.length + 1) c)) : CurV (w.setCell ⟨pc, 1, none⟩ (.slice (some ⟨g, 0, none⟩) pre.length c)) lo pc pt (some g) pre ∧ ButS (CurB pc (some g)) w (w.setCell ⟨pc, 1, none⟩ (.slice (some ⟨g, 0, none⟩) pre.length c)) := by
  have hne := (h.ne rfl).1
  obtain ⟨⟨a, c', h1, h2, h3⟩, h4⟩ := h
  have hl : (pre ++ [s]).length = pre.length + 1 := by simp
  rw [hl] at h1 h2 h3
  have e : w.cell? ⟨pc, 1, none⟩ = some (.slice a (pre.length + 1) c') := by simp [World.cell?, h1]
  rw [hc] at e
  cases e
  have h5 := own_pop h2
  have e5 : (spV (pre ++ [s])).take (pre.length * 2) = spV pre := by
    rw [spV_snoc, List.take_append_of_le_length (by rw [spV_len]; exact Nat.le_refl _), List.take_of_length_le (by rw [spV_len]; exact Nat.le_refl _)]
  rw [e5] at h5
  refine ⟨⟨⟨some ⟨g, 0, none⟩, c, ?_, own_set_other (a := ⟨pc, 1, none⟩) h5 (.inr (fun e => hne (Option.some.inj e))) _, rfl⟩, h4⟩, (ButS.refl _ w).set (.inl (.inl rfl)) _ _⟩
  rw [heap_setCell_same w pc 1 _ _ _ h1]
  rfl
theorem c_up_no (pc pt lo : Nat) (rb : Option Nat) (w : World) (h : CurV w lo pc pt rb []) :
    Calls Tryz.prog 109 #[.pointer (some ⟨pc, 0, none⟩)] w fun e w' => e = .returned (.bool false) ∧ w' = w := by
  have L := Lib.hid (c_last_nil pc pt lo rb w h)
  clear h
  go_enter Tryz.func109, Tryz.ntmps109
  go_wp2_with (go_at_call 123; (with_reducible refine L.out.mono ?_); rintro e w1 ⟨rfl, hw1⟩; obtain rfl := hw1.symm)
  go_returns
  exact ⟨rfl, rfl⟩
set_option maxRecDepth 100000 in
theorem c_up (pc pt lo g : Nat) (pre : List (Nat × Nat)) (f t : Nat) (w : World) (h : CurV w lo pc pt (some g) (pre ++ [(f, t)])) :
    Calls Tryz.prog 109 #[.pointer (some ⟨pc, 0, none⟩)] w fun e w' => e = .returned (.bool true) ∧ CurV w' lo pc pt (some g) pre ∧ ButS (CurB pc (some g)) w w' := by
  have L := Lib.hid (c_last pc pt lo g pre f t w h)
  obtain ⟨g', c, e, h0, h1, h2, hc, _, _, _, hcm⟩ := h.last
  cases e
  have POP : Hid (∀ W, (∃ q, W = w.drewN q) → CurV (W.drew.setCell ⟨pc, 1, none⟩ (.slice (some ⟨g, 0, none⟩) pre.length c)) lo pc pt (some g) pre ∧ ButS (CurB pc (some g)) w (W.drew.setCell ⟨pc, 1, none⟩ (.slice (some ⟨g, 0, none⟩) pre.length c))) := fun W ⟨q, hq⟩ => by
    have e : Ext w W.drew := by rw [hq]; exact ext_drew (ext_drewN (Below.refl _ _) q)
    obtain ⟨p1, p2⟩ := (h.ext e).pop (keep e h1)
    exact ⟨p1, ((ButS.refl _ w).ext e).trans p2⟩
  obtain ⟨k, hk⟩ : ∃ k, pre.length = k := ⟨_, rfl⟩
  rw [hk] at h1 hc L POP
  have hcm2 : c ≤ 9223372036854775807 := hcm
  have r1 : IntKind.i64.wrap (k : Int) = (k : Int) := by rw [IntKind.wrap_i64]; omega
  have r2 : (k : Int) ≤ (c : Int) := by omega
  have r3 : (k : Int) ≤ (k : Int) + 1 := by omega
  clear h hk hcm
  go_enter Tryz.func109, Tryz.ntmps109
  go_upto_region 3 with (go_at_call 123; (with_reducible refine L.out.mono ?_); rintro e w1 ⟨rfl, hw1⟩)
  have HQ := Lib.hid hw1
  have e1 : Ext w w1 := by obtain ⟨q, hq⟩ := hw1; rw [hq]; exact ext_drewN (Below.refl _ _) q
  have k1 := keep e1 h1
  have k2 : w1.frozen? ⟨pc, 1, none⟩ = false := (e1.frozen (p := ⟨pc, 1, none⟩) (World.block_lt_of_cell? w ⟨pc, 1, none⟩ h1)).trans h2
  clear hw1 e1
  go_still_tail 12, (by kernel_rfl)
  change wpList _ _ _ _ _ w1.drew
  go_wp2
  go_returns
  exact ⟨rfl, (POP.out w1 HQ.out).1, (POP.out w1 HQ.out).2⟩
theorem c_next_no (pc pt lo : Nat) (rb : Option Nat) (sp : List (Nat × Nat)) (w : World) (h : CurV w lo pc pt rb sp) (hn : sp = [] ∨ endB sp = true) :
    Calls Tryz.prog 127 #[.pointer (some ⟨pc, 0, none⟩)] w fun e w' => e = .returned (.bool false) ∧ Ext w w' := by
  rcases sp.eq_nil_or_concat with rfl | ⟨pre, ⟨f, t⟩, e⟩
  · have L := Lib.hid (c_last_nil pc pt lo rb w h)
    clear h hn
    go_enter Tryz.func127, Tryz.ntmps127
    go_wp2_with (go_at_call 123; (with_reducible refine L.out.mono ?_); rintro e w1 ⟨rfl, hw1⟩; obtain rfl := hw1.symm)
    go_returns
    exact ⟨rfl, Below.refl _ _⟩
  · rw [List.concat_eq_append] at e
    subst e
    have hn2 : endB (pre ++ [(f, t)]) = true := by
      rcases hn with hn | hn
      · simp at hn
      · exact hn
    obtain ⟨g, c, rfl, _⟩ := h.last
    have L := Lib.hid (c_last pc pt lo g pre f t w h)
    have H := Lib.hid h
    have AE : Hid (∀ w1, Ext w w1 → Calls Tryz.prog 119 #[.pointer (some ⟨pc, 0, none⟩)] w1 fun e w' => e = .returned (.bool true) ∧ Ext w w') := fun w1 h1 => by
      have A := c_atEnd pc pt lo (some g) (pre ++ [(f, t)]) w1 (H.out.ext h1)
      rw [hn2] at A
      exact A.mono fun e w' ⟨r1, q, r2⟩ => ⟨r1, by rw [r2]; exact ext_drewN h1 q⟩
    clear h hn hn2
    go_enter Tryz.func127, Tryz.ntmps127
    go_wp2_with (first
      | (go_at_call 123; (with_reducible refine L.out.mono ?_); rintro e w1 ⟨rfl, q1, hw1⟩; have E1 : Ext w w1 := (by rw [hw1]; exact ext_drewN (Below.refl _ _) q1); clear hw1)
      | (go_at_call 119; (with_reducible refine (AE.out _ E1).mono ?_); rintro e w2 ⟨rfl, E2⟩))
    go_returns
    exact ⟨rfl, E2⟩
set_option maxRecDepth 100000 in
theorem c_next (pc pt lo g : Nat) (pre : List (Nat × Nat)) (f t : Nat) (w : World) (h : CurV w lo pc pt (some g) (pre ++ [(f, t)])) (hft : f < t) (ht : t ≤ 1000000) :
    Calls Tryz.prog 127 #[.pointer (some ⟨pc, 0, none⟩)] w fun e w' => e = .returned (.bool (!decide (f + 1 = t))) ∧ CurV w' lo pc pt (some g) (pre ++ [(f + 1, t)]) ∧ ButS (CurB pc (some g)) w w' := by
  have L := Lib.hid (c_last pc pt lo g pre f t w h)
  have H := Lib.hid h
  obtain ⟨g', c, e, _, _, _, _, z0, z1, z2, _⟩ := h.last
  cases e
  have AE : Hid (∀ w1, Ext w w1 → Calls Tryz.prog 119 #[.pointer (some ⟨pc, 0, none⟩)] w1 fun e w' => e = .returned (.bool false) ∧ Ext w w') := fun w1 h1 => by
    have A := c_atEnd pc pt lo (some g) (pre ++ [(f, t)]) w1 (H.out.ext h1)
    rw [endB_snoc, show decide (f = t) = false by simp; omega] at A
    exact A.mono fun e w' ⟨r1, q, r2⟩ => ⟨r1, by rw [r2]; exact ext_drewN h1 q⟩
  have MV : Hid (∀ w1, Ext w w1 → CurV (w1.setCell ⟨g, pre.length * 2, none⟩ (.int .i64 ((f + 1 : Nat) : Int))) lo pc pt (some g) (pre ++ [(f + 1, t)]) ∧ ButS (CurB pc (some g)) w (w1.setCell ⟨g, pre.length * 2, none⟩ (.int .i64 ((f + 1 : Nat) : Int)))) := fun w1 h1 => by
    obtain ⟨m1, m2⟩ := (H.out.ext h1).move (f + 1)
    exact ⟨m1, ((ButS.refl _ w).ext h1).trans m2⟩
  have AE2 : Hid (∀ w3, CurV w3 lo pc pt (some g) (pre ++ [(f + 1, t)]) → Calls Tryz.prog 119 #[.pointer (some ⟨pc, 0, none⟩)] w3 fun e w' => e = .returned (.bool (decide (f + 1 = t))) ∧ Ext w3 w') := fun w3 h1 => by
    have A := c_atEnd pc pt lo (some g) (pre ++ [(f + 1, t)]) w3 h1
    rw [endB_snoc] at A
    exact A.mono fun e w' ⟨r1, q, r2⟩ => ⟨r1, by rw [r2]; exact ext_drewN (Below.refl _ _) q⟩
  have ec : (f : Int) + 1 = ((f + 1 : Nat) : Int) := by omega
  have hfm : f + 1 ≤ 1000000 := by omega
  have EC := Lib.hid ec
  obtain ⟨b, hb⟩ : ∃ b, decide (f + 1 = t) = b := ⟨_, rfl⟩
  rw [hb] at AE2 ⊢
  clear h hft hb ec
  go_enter Tryz.func127, Tryz.ntmps127
  go_upto_region 4 with (first
    | (go_at_call 123; (with_reducible refine L.out.mono ?_); rintro e w1 ⟨rfl, q1, hw1⟩; have E1 : Ext w w1 := (by rw [hw1]; exact ext_drewN (Below.refl _ _) q1); clear hw1)
    | (go_at_call 119; (with_reducible refine (AE.out _ E1).mono ?_); rintro e w2 ⟨rfl, E2⟩))
  have k0 := keep E2 z0
  have k2 : w2.frozen? ⟨g, pre.length * 2, none⟩ = false := (E2.frozen (p := ⟨g, pre.length * 2, none⟩) (World.block_lt_of_cell? w ⟨g, pre.length * 2, none⟩ z0)).trans z2
  go_upto_region 5 with (fail)
  rw [EC.out]
  refine wp_gen (fun W5 hW5 => ?_)
  obtain ⟨m1, m2⟩ := MV.out w2 E2
  rw [← hW5] at m1 m2
  have A3 := Lib.hid (AE2.out W5 m1)
  have M1 := Lib.hid m1
  have M2 := Lib.hid m2
  clear hW5 m1 m2 AE AE2 MV
  go_wp2_with (go_at_call 119; (with_reducible refine A3.out.mono ?_); rintro e w6 ⟨rfl, E6⟩)
  go_returns
  exact ⟨rfl, M1.out.ext E6, M2.out.ext E6⟩
theorem c_seek_no (pc pt lo : Nat) (rb : Option Nat) (sp : List (Nat × Nat)) (x : ByteArray) (w : World) (h : CurV w lo pc pt rb sp) (hn : sp = [] ∨ endB sp = true) :
    Calls Tryz.prog 126 #[.pointer (some ⟨pc, 0, none⟩), .string x] w fun e w' => e = .returned (.bool false) ∧ Ext w w' := by
  rcases sp.eq_nil_or_concat with rfl | ⟨pre, ⟨f, t⟩, e⟩
  · have L := Lib.hid (c_last_nil pc pt lo rb w h)
    clear h hn
    go_enter Tryz.func126, Tryz.ntmps126
    go_wp2_with (go_at_call 123; (with_reducible refine L.out.mono ?_); rintro e w1 ⟨rfl, hw1⟩; obtain rfl := hw1.symm)
    go_returns
    exact ⟨rfl, Below.refl _ _⟩
  · rw [List.concat_eq_append] at e
    subst e
    have hn2 : endB (pre ++ [(f, t)]) = true := by
      rcases hn with hn | hn
      · simp at hn
      · exact hn
    obtain ⟨g, c, rfl, _⟩ := h.last
    have L := Lib.hid (c_last pc pt lo g pre f t w h)
    have H := Lib.hid h
    have AE : Hid (∀ w1, Ext w w1 → Calls Tryz.prog 119 #[.pointer (some ⟨pc, 0, none⟩)] w1 fun e w' => e = .returned (.bool true) ∧ Ext w w') := fun w1 h1 => by
      have A := c_atEnd pc pt lo (some g) (pre ++ [(f, t)]) w1 (H.out.ext h1)
      rw [hn2] at A
      exact A.mono fun e w' ⟨r1, q, r2⟩ => ⟨r1, by rw [r2]; exact ext_drewN h1 q⟩
    clear h hn hn2
    go_enter Tryz.func126, Tryz.ntmps126
    go_wp2_with (first
      | (go_at_call 123; (with_reducible refine L.out.mono ?_); rintro e w1 ⟨rfl, q1, hw1⟩; have E1 : Ext w w1 := (by rw [hw1]; exact ext_drewN (Below.refl _ _) q1); clear hw1)
      | (go_at_call 119; (with_reducible refine (AE.out _ E1).mono ?_); rintro e w2 ⟨rfl, E2⟩))
    go_returns
    exact ⟨rfl, E2⟩
set_option maxRecDepth 100000 in
set_option maxHeartbeats 1000000 in
theorem c_seekC (pc pt lo g d : Nat) (ways : List (List ByteArray)) (pre : List (Nat × Nat)) (f t A B : Nat) (x : ByteArray) (w : World) (h : CurV w lo pc pt (some g) (pre ++ [(f, t)])) (ht : TrieV w pt d ways) (hw : Ways d ways) (hf : CurFacts d ways pre f t A B) (hft : f < t) (hn : ways.length ≤ 1000000) (r : Nat) (hr : skP (keysM ways pre.length ways.length) f t x = r) :
    Calls Tryz.prog 126 #[.pointer (some ⟨pc, 0, none⟩), .string x] w fun e w' => e = .returned (.bool (!decide (r = t))) ∧ CurV w' lo pc pt (some g) (pre ++ [(r, t)]) ∧ ButS (CurB pc (some g)) w w' := by
  have L := Lib.hid (c_last pc pt lo g pre f t w h)
  have H := Lib.hid h
  obtain ⟨g', c, e, y0, y1, _, hc, z0, z1, z2, hcm⟩ := h.last
  cases e
  have AE : Hid (∀ w1, Ext w w1 → Calls Tryz.prog 119 #[.pointer (some ⟨pc, 0, none⟩)] w1 fun e w' => e = .returned (.bool false) ∧ Ext w w') := fun w1 h1 => by
    have A := c_atEnd pc pt lo (some g) (pre ++ [(f, t)]) w1 (H.out.ext h1)
    rw [endB_snoc, show decide (f = t) = false by simp; omega] at A
    exact A.mono fun e w' ⟨r1, q, r2⟩ => ⟨r1, by rw [r2]; exact ext_drewN h1 q⟩
  have MV : Hid (∀ w1, Ext w w1 → CurV (w1.setCell ⟨g, pre.length * 2, none⟩ (.int .i64 (r : Int))) lo pc pt (some g) (pre ++ [(r, t)]) ∧ ButS (CurB pc (some g)) w (w1.setCell ⟨g, pre.length * 2, none⟩ (.int .i64 (r : Int)))) := fun w1 h1 => by
    obtain ⟨m1, m2⟩ := (H.out.ext h1).move r
    exact ⟨m1, ((ButS.refl _ w).ext h1).trans m2⟩
  have AE2 : Hid (∀ w3, CurV w3 lo pc pt (some g) (pre ++ [(r, t)]) → Calls Tryz.prog 119 #[.pointer (some ⟨pc, 0, none⟩)] w3 fun e w' => e = .returned (.bool (decide (r = t))) ∧ Ext w3 w') := fun w3 h1 => by
    have A := c_atEnd pc pt lo (some g) (pre ++ [(r, t)]) w3 h1
    rw [endB_snoc] at A
    exact A.mono fun e w' ⟨r1, q, r2⟩ => ⟨r1, by rw [r2]; exact ext_drewN (Below.refl _ _) q⟩
  have wb := wid_mono ways pre.length hf.seg.top
  have htop := hf.top
  have SK : Hid (∀ w2, Ext w w2 → Calls Tryz.prog 138 #[.pointer (some ⟨pt, 0, none⟩), .int .i64 (pre.length : Int), .agg #[.int .i64 (f : Int), .int .i64 (t : Int)], .string x] w2 fun e w' => e = .returned (.int .i64 (r : Nat)) ∧ Ext w w') := fun w2 h2 => by
    rw [← hr]
    exact (c_seek pt d ways pre.length f t x w2 (ht.ext h2) hf.dep hf.le (by omega) hf.pos (fun p q a b h1 h3 h4 => hf.seg.cut hw hf.dep x hf.ge p q a b h1 h3 (by omega)) hn).mono fun e w' ⟨r1, r2⟩ => ⟨r1, ext_trans h2 r2⟩
  obtain ⟨k, hk⟩ : ∃ k, pre.length = k := ⟨_, rfl⟩
  obtain ⟨b, hb⟩ : ∃ b, decide (r = t) = b := ⟨_, rfl⟩
  rw [hb] at AE2 ⊢
  rw [hk] at L y1 z0 z1 z2 MV SK hc
  have hcm2 : c ≤ 9223372036854775807 := hcm
  have r1 : IntKind.i64.wrap (k : Int) = (k : Int) := by rw [IntKind.wrap_i64]; omega
  clear h hft hb hr hf hk htop wb ht hcm
  go_enter Tryz.func126, Tryz.ntmps126
  go_upto_region 4 with (first
    | (go_at_call 123; (with_reducible refine L.out.mono ?_); rintro e w1 ⟨rfl, q1, hw1⟩; have E1 : Ext w w1 := (by rw [hw1]; exact ext_drewN (Below.refl _ _) q1); clear hw1)
    | (go_at_call 119; (with_reducible refine (AE.out _ E1).mono ?_); rintro e w2 ⟨rfl, E2⟩))
  have k0 := keep E2 z0
  have k1 := keep E2 z1
  have k2 : Hid (w2.frozen? ⟨g, k * 2, none⟩ = false) := (E2.frozen (p := ⟨g, k * 2, none⟩) (World.block_lt_of_cell? w ⟨g, k * 2, none⟩ z0)).trans z2
  have k3 := keep E2 y0
  have k4 := keep E2 y1
  have K0 := Lib.hid k0
  have d0 := keep (ext_drew (Below.refl _ w2)) k0
  have d1 := keep (ext_drew (Below.refl _ w2)) k1
  have d3 := keep (ext_drew (Below.refl _ w2)) k3
  have d4 := keep (ext_drew (Below.refl _ w2)) k4
  have SK2 := Lib.hid (SK.out w2.drew (ext_drew E2))
  go_region_law (first
    | (go_simp; go_wp2_with (go_at_call 138; (with_reducible refine SK2.out.mono ?_); rintro e w3 ⟨rfl, E3⟩; have n0 := keep E3 z0; have n2 : w3.frozen? ⟨g, k * 2, none⟩ = false := (E3.frozen (p := ⟨g, k * 2, none⟩) (World.block_lt_of_cell? w ⟨g, k * 2, none⟩ z0)).trans z2))
    | fail)
  all_goals
    go_wp2_with (go_at_call 119; (with_reducible refine (AE2.out _ (MV.out _ E3).1).mono ?_); rintro e w6 ⟨rfl, E6⟩)
    go_returns
    exact ⟨rfl, (MV.out _ E3).1.ext E6, (MV.out _ E3).2.ext E6⟩
end Go.Proofs.YtpgbenijjodoeaaGreat
