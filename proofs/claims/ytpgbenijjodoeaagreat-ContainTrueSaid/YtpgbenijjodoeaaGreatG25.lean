/- The walk of a cursor's Open. -/
import Derived.Test.YtpgbenijjodoeaaGreatG24
namespace Go.Proofs.YtpgbenijjodoeaaGreat
open Go.ChangeShapes Go.WideShapes Go.ChangeAt Go.RowKit
theorem info_span : (Tryz.prog.info? 192).map (fun i => (i.zero, i.size, i.bytes)) = some (some (.agg #[.int .i64 0, .int .i64 0]), 2, 16) := by kernel_rfl
theorem news2 (w : World) (u v : Value) (t : TypeId) : ∀ j x, [u, v][j]? = some x → (w.alloc (.cells #[u, v] t)).cell? ((⟨w.heap.size, 0, none⟩ : Addr).add j) = some x := by
  intro j x hx
  rw [Addr.add_lit, World.cell?_alloc_new, Nat.zero_add]
  simpa using hx
/-- One span more. -/
theorem CurV.push {w w1 : World} {lo pc pt n c g c' : Nat} {rb : Option Nat} {sp : List (Nat × Nat)} {a : Option Addr} {o : Obj} {f t : Nat} (h : CurV w lo pc pt rb sp) (hc : w.cell? ⟨pc, 1, none⟩ = some (.slice a n c)) (hn : sp.length = n)
    (r1 : w1.ownsRow lo 192 2 (.slice (some ⟨g, 0, none⟩) (n + 1) c') (n + 1) (spV sp ++ [.int .i64 (f : Nat), .int .i64 (t : Nat)])) (r2 : (w.alloc o).grownBy w1 (Value.slice a n c).ownBlock) (r3 : (Value.slice a n c).ownBlock = some g ∨ g = (w.alloc o).heap.size) :
    w1.cell? ⟨pc, 1, none⟩ = some (.slice a n c) ∧ w1.frozen? ⟨pc, 1, none⟩ = false ∧ w1.cell? ⟨pc, 0, none⟩ = some (.pointer (some ⟨pt, 0, none⟩)) ∧ CurV (w1.setCell ⟨pc, 1, none⟩ (.slice (some ⟨g, 0, none⟩) (n + 1) c')) lo pc pt (some g) (sp ++ [(f, t)]) ∧ ButS (CurB pc rb) w (w1.setCell ⟨pc, 1, none⟩ (.slice (some ⟨g, 0, none⟩) (n + 1) c')) ∧ (rb = some g ∨ w.heap.size ≤ g) := by
  subst hn
  have hnb := fun g => h.ne (g := g)
  obtain ⟨⟨a0, c0, h1, h2, h3⟩, h4⟩ := h
  have e : w.cell? ⟨pc, 1, none⟩ = some (.slice a0 sp.length c0) := by simp [World.cell?, h1]
  rw [hc] at e
  cases e
  rw [h3] at r2 r3
  have hlt := (Array.getElem?_eq_some_iff.1 h1).1
  have hblk : w1.heap[pc]? = some (.cells #[.pointer (some ⟨pt, 0, none⟩), .slice a sp.length c] 175 (0, 0)) := by
    rw [r2.block pc (by simp; omega) (fun e => by have := (hnb pc e.symm).1; exact this rfl), heap_alloc_old w o hlt]
    exact h1
  have hgp : g ≠ pc := by
    rintro rfl
    rcases r1.2 with ⟨e, _⟩ | ⟨g', c2, cur, e, _, hg', _⟩
    · cases e
    · cases e
      rw [hblk] at hg'
      cases hg'
  have hl : (sp ++ [(f, t)]).length = sp.length + 1 := by simp
  refine ⟨by simp [World.cell?, hblk], by simp [World.frozen?, hblk], by simp [World.cell?, hblk], ⟨⟨some ⟨g, 0, none⟩, c', ?_, ?_, rfl⟩, h4⟩, ?_, ?_⟩
  · rw [hl, heap_setCell_same w1 pc 1 _ _ _ hblk]
    rfl
  · rw [hl, spV_snoc]
    exact own_set_other (a := ⟨pc, 1, none⟩) r1 (.inr (fun e => hgp (Option.some.inj e))) _
  · exact (((ButS.refl _ w).alloc o).grown r2 (fun b e => .inl (.inr e))).set (.inl (.inl rfl)) _ _
  · rcases r3 with r | r
    · exact .inl r
    · refine .inr ?_
      rw [r]
      simp
theorem step_push_span {ops : Array Oper} {o : Oper} {a : Act} {K : Act → World → Prop} {Q : Exit → Act → World → Prop} {E : Prop} (W0 : World) (f t : Nat) (base : Nat) (fa : Option Addr) (n fc : Nat) (l : List Value) (hown : W0.ownsRow base 192 2 (.slice fa n fc) n l) (hn : n ≤ 1000000) (hbase : base ≤ W0.heap.size) (hgd : o.guard = none) (s x : Operand)
    (ho : o.op = .call { callee := .builtin .append, args := #[s, x], argTypes := #[173, 173] }) (hs : a.eval s = .slice fa n fc) (hx : a.eval x = .slice (some ⟨W0.heap.size, 0, none⟩) 1 1)
    (h : ∀ g cap w', w'.ownsRow base 192 2 (.slice (some ⟨g, 0, none⟩) (n + 1) cap) (n + 1) (l ++ [.int .i64 (f : Nat), .int .i64 (t : Nat)]) → (W0.alloc (.cells #[.int .i64 (f : Nat), .int .i64 (t : Nat)] 192)).grownBy w' (Value.slice fa n fc).ownBlock → ((Value.slice fa n fc).ownBlock = some g ∨ g = (W0.alloc (.cells #[.int .i64 (f : Nat), .int .i64 (t : Nat)] 192)).heap.size) → K (a.put o.dst (.slice (some ⟨g, 0, none⟩) (n + 1) cap)) w') :
    if Region.wanted o (yielded ops a.tmps) = true then Oper.wp Tryz.prog o a (W0.alloc (.cells #[.int .i64 (f : Nat), .int .i64 (t : Nat)] 192)) K Q else E := by
  obtain ⟨j0, hj, yz0, yz1, yz2⟩ := info_parts info_span
  exact step_append_lies _ hgd s x 173 ho base 192 j0 (.agg #[.int .i64 0, .int .i64 0]) 2 16 Tryz.underlying173 hj yz0 yz1 yz2 rfl (by decide) _ n l hs (hown.alloc _) ⟨W0.heap.size, 0, none⟩ 1 1 [.int .i64 (f : Nat), .int .i64 (t : Nat)] hx rfl (news2 W0 _ _ _) (by simp [Value.oneCell']) (by omega) (by unfold maxLen; omega) (by omega) (by simp; omega) _ rfl fun g cap w1 hown1 hgrow hat _ => h g cap w1 hown1 hgrow hat
theorem c_open_no (pc pt lo d : Nat) (ways : List (List ByteArray)) (rb : Option Nat) (sp : List (Nat × Nat)) (w : World) (h : CurV w lo pc pt rb sp) (ht : TrieV w pt d ways) (hm : mayOpen d ways sp = false) :
    Calls Tryz.prog 107 #[.pointer (some ⟨pc, 0, none⟩)] w fun e w' => e = .returned (.bool false) ∧ Ext w w' := by
  have AE : Hid (∀ q, Calls Tryz.prog 119 #[.pointer (some ⟨pc, 0, none⟩)] (w.drewN q) fun e w' => e = .returned (.bool (endB sp)) ∧ ∃ m, w' = (w.drewN q).drewN m) := fun q => c_atEnd pc pt lo rb sp _ (h.ext (ext_drewN (Below.refl _ _) q))
  have AT : Hid (∀ q, Calls Tryz.prog 120 #[.pointer (some ⟨pc, 0, none⟩)] (w.drewN q) fun e w' => e = .returned (.int .i64 (sp.length : Nat)) ∧ w' = w.drewN q) := fun q => c_at pc pt lo rb sp _ (h.ext (ext_drewN (Below.refl _ _) q))
  have DP : Hid (∀ q, Calls Tryz.prog 121 #[.pointer (some ⟨pt, 0, none⟩)] (w.drewN q) fun e w' => e = .returned (.int .i64 (d : Nat)) ∧ w' = w.drewN q) := fun q => c_depth pt d ways _ (ht.ext (ext_drewN (Below.refl _ _) q))
  have LN : Hid (∀ q, Calls Tryz.prog 122 #[.pointer (some ⟨pt, 0, none⟩)] (w.drewN q) fun e w' => e = .returned (.int .i64 (ways.length : Nat)) ∧ w' = w.drewN q) := fun q => c_lenT pt d ways _ (ht.ext (ext_drewN (Below.refl _ _) q))
  obtain ⟨a, c, h0, _⟩ := h.cells
  unfold mayOpen at hm
  obtain ⟨e, he⟩ : ∃ e, endB sp = e := ⟨_, rfl⟩
  obtain ⟨q, hq⟩ : ∃ q, decide (sp.length = d) = q := ⟨_, rfl⟩
  obtain ⟨z, hz⟩ : ∃ z, decide (ways.length = 0) = z := ⟨_, rfl⟩
  rw [he, hq, hz] at hm
  rw [he] at AE
  have q1 : ((sp.length : Int) == (d : Int)) = q := by rw [← hq, Bool.eq_iff_iff]; simp; omega
  have q2 : ((ways.length : Int) == 0) = z := by rw [← hz, Bool.eq_iff_iff]; simp
  clear h ht he hq hz
  cases e with
  | true =>
    go_enter Tryz.func107, Tryz.ntmps107
    go_wp2
    go_quiet (first
      | (go_at_call 119; exact Calls.quiet_of (AE.out _))
      | (go_at_call 120; exact Calls.quiet_of_same (AT.out _))
      | (go_at_call 121; exact Calls.quiet_of_same (DP.out _))
      | (go_at_call 122; exact Calls.quiet_of_same (LN.out _)))
    go_wp2
    go_returns
    exact ⟨rfl, ext_drewN (Below.refl _ _) _⟩
  | false =>
    cases q with
    | true =>
      go_enter Tryz.func107, Tryz.ntmps107
      go_wp2
      go_quiet (first
        | (go_at_call 119; exact Calls.quiet_of (AE.out _))
        | (go_at_call 120; exact Calls.quiet_of_same (AT.out _))
        | (go_at_call 121; exact Calls.quiet_of_same (DP.out _))
        | (go_at_call 122; exact Calls.quiet_of_same (LN.out _)))
      go_wp2
      go_returns
      exact ⟨rfl, ext_drewN (Below.refl _ _) _⟩
    | false =>
      cases z with
      | true =>
        go_enter Tryz.func107, Tryz.ntmps107
        go_wp2
        go_quiet (first
          | (go_at_call 119; exact Calls.quiet_of (AE.out _))
          | (go_at_call 120; exact Calls.quiet_of_same (AT.out _))
          | (go_at_call 121; exact Calls.quiet_of_same (DP.out _))
          | (go_at_call 122; exact Calls.quiet_of_same (LN.out _)))
        go_wp2
        go_returns
        exact ⟨rfl, ext_drewN (Below.refl _ _) _⟩
      | false => simp at hm
/-- What Open brings about. -/
def OpenPost (lo pc pt : Nat) (rb : Option Nat) (sp : List (Nat × Nat)) (s : Nat × Nat) (w : World) (e : Ending) (w' : World) : Prop := e = .returned (.bool true) ∧ ∃ g, CurV w' lo pc pt (some g) (sp ++ [s]) ∧ ButS (CurB pc rb) w w' ∧ (rb = some g ∨ w.heap.size ≤ g)
theorem CurV.row {w : World} {lo pc pt : Nat} {rb : Option Nat} {sp : List (Nat × Nat)} (h : CurV w lo pc pt rb sp) (a : Option Addr) (n c : Nat) (hc : w.cell? ⟨pc, 1, none⟩ = some (.slice a n c)) (_ : sp.length = n) : w.ownsRow lo 192 2 (.slice a n c) n (spV sp) ∧ (Value.slice a n c).ownBlock = rb := by
  obtain ⟨⟨a0, c0, h1, h2, h3⟩, h4⟩ := h
  have e : w.cell? ⟨pc, 1, none⟩ = some (.slice a0 sp.length c0) := by simp [World.cell?, h1]
  rw [hc] at e
  cases e
  exact ⟨h2, h3⟩
theorem CurV.lt {w : World} {lo pc pt : Nat} {rb : Option Nat} {sp : List (Nat × Nat)} (h : CurV w lo pc pt rb sp) : pc < w.heap.size := by
  obtain ⟨⟨a0, c0, h1, h2, h3⟩, h4⟩ := h
  exact (Array.getElem?_eq_some_iff.1 h1).1
set_option maxRecDepth 100000 in
set_option maxHeartbeats 2000000 in
theorem c_open_nil (pc pt lo d : Nat) (ways : List (List ByteArray)) (rb : Option Nat) (w : World) (h : CurV w lo pc pt rb []) (ht : TrieV w pt d ways) (hd : 0 < d) (hN : 0 < ways.length) :
    Calls Tryz.prog 107 #[.pointer (some ⟨pc, 0, none⟩)] w (OpenPost lo pc pt rb [] (0, wid ways 0 ways.length) w) := by
  obtain ⟨n, hnl, hn0⟩ : ∃ n, ([] : List (Nat × Nat)).length = n ∧ n = 0 := ⟨0, rfl, rfl⟩
  have he := endB_nil
  have AE : Hid (∀ q, Calls Tryz.prog 119 #[.pointer (some ⟨pc, 0, none⟩)] (w.drewN q) fun e w' => e = .returned (.bool false) ∧ ∃ m, w' = (w.drewN q).drewN m) := fun q => by
    have := c_atEnd pc pt lo rb [] _ (h.ext (ext_drewN (Below.refl _ _) q))
    rwa [he] at this
  have AT : Hid (∀ q, Calls Tryz.prog 120 #[.pointer (some ⟨pc, 0, none⟩)] (w.drewN q) fun e w' => e = .returned (.int .i64 (n : Nat)) ∧ w' = w.drewN q) := fun q => by
    have := c_at pc pt lo rb [] _ (h.ext (ext_drewN (Below.refl _ _) q))
    rwa [hnl] at this
  have DP : Hid (∀ q, Calls Tryz.prog 121 #[.pointer (some ⟨pt, 0, none⟩)] (w.drewN q) fun e w' => e = .returned (.int .i64 (d : Nat)) ∧ w' = w.drewN q) := fun q => c_depth pt d ways _ (ht.ext (ext_drewN (Below.refl _ _) q))
  have LN : Hid (∀ q, Calls Tryz.prog 122 #[.pointer (some ⟨pt, 0, none⟩)] (w.drewN q) fun e w' => e = .returned (.int .i64 (ways.length : Nat)) ∧ w' = w.drewN q) := fun q => c_lenT pt d ways _ (ht.ext (ext_drewN (Below.refl _ _) q))
  obtain ⟨a, c, h0, hc1, hfz, _⟩ := h.cells
  rw [hnl] at hc1
  have H := Lib.hid h
  have HT := Lib.hid ht
  obtain ⟨gl, t0, t1⟩ := ht.keys
  obtain ⟨k0a, k0c, z0, _⟩ := t1 0 (by omega)
  rw [Nat.zero_mul] at z0
  have q1 : ((n : Int) == (d : Int)) = false := beq_eq_false_iff_ne.2 (by omega)
  have q2 : ((ways.length : Int) == 0) = false := beq_eq_false_iff_ne.2 (by omega)
  have q3 : (0 : Int) < (d : Int) := by omega
  have hn2 : n ≤ 1000000 := by omega
  have HNL := Lib.hid hnl
  have L : Hid (∀ w1, Ext w w1 → Calls Tryz.prog 123 #[.pointer (some ⟨pc, 0, none⟩)] w1 fun e w' => e = .returned (.pointer none) ∧ Ext w w' ∧ Ext w1 w') := fun w1 h1 => (c_last_nil pc pt lo rb w1 (H.out.ext h1)).mono fun e w' ⟨r1, r2⟩ => ⟨r1, by rw [r2]; exact h1, by rw [r2]; exact Below.refl _ _⟩
  obtain ⟨y, hy⟩ : ∃ y, wid ways 0 ways.length = y := ⟨_, rfl⟩
  obtain ⟨x, hx⟩ : ∃ x : Nat, x = 0 := ⟨0, rfl⟩
  rw [hy] at z0 ⊢
  rw [show ((0 : Nat), y) = (x, y) by rw [hx]]
  have ix : (0 : Int) = (x : Int) := by omega
  have IX := Lib.hid ix
  clear h ht hnl hn0 he t1 hd hN hy hx ix
  go_enter Tryz.func107, Tryz.ntmps107
  go_wp2
  go_quiet (first
    | (go_at_call 119; exact Calls.quiet_of (AE.out _))
    | (go_at_call 120; exact Calls.quiet_of_same (AT.out _))
    | (go_at_call 121; exact Calls.quiet_of_same (DP.out _))
    | (go_at_call 122; exact Calls.quiet_of_same (LN.out _)))
  go_upto_region 3 with (fail)
  refine wp_gen (fun W3 hW3 => ?_)
  have e3 : Ext w W3 := by rw [hW3]; exact ext_drewN (Below.refl _ _) _
  have k0 := keep e3 h0
  have k1 := keep e3 t0
  have k2 := keep e3 z0
  clear hW3
  go_upto_region 4 with (fail)
  rw [IX.out]
  refine wp_gen (fun W4 hW4 => ?_)
  have e4 : Ext w W4 := by rw [hW4]; exact ext_alloc e3 _
  have b0 : W4.cell? ⟨W3.heap.size, 0, none⟩ = some (.int .i64 (x : Int)) := by rw [hW4, ← IX.out]; go_simp
  have b1 : W4.cell? ⟨W3.heap.size, 1, none⟩ = some (.int .i64 (y : Int)) := by rw [hW4]; go_simp
  obtain ⟨B7, hB7⟩ : ∃ B7, W3.heap.size = B7 := ⟨_, rfl⟩
  rw [hB7] at b0 b1 ⊢
  clear hW4 k0 k1 k2 e3 hB7
  go_upto_region 7 with (go_at_call 123; (with_reducible refine (L.out _ e4).mono ?_); rintro e w5 ⟨rfl, E5, E54⟩)
  refine wp_gen (fun W7 hW7 => ?_)
  have e7 : Ext w W7 := by rw [hW7]; exact E5
  have s0 : W7.cell? ⟨B7, 0, none⟩ = some (.int .i64 (x : Int)) := by rw [hW7]; exact keep E54 b0
  have s1 : W7.cell? ⟨B7, 1, none⟩ = some (.int .i64 (y : Int)) := by rw [hW7]; exact keep E54 b1
  have HEX := Lib.hid e7
  have HC7 := Lib.hid (H.out.ext (ext_drew e7))
  have OW7 := Lib.hid HC7.out.row
  have d0 : W7.drew.cell? ⟨pc, 0, none⟩ = some (.pointer (some ⟨pt, 0, none⟩)) := keep (ext_drew e7) h0
  have d1 : W7.drew.cell? ⟨pc, 1, none⟩ = some (.slice a n c) := keep (ext_drew e7) hc1
  obtain ⟨OWR, _⟩ := OW7.out a n c d1 HNL.out
  have OWH := Lib.hid OWR
  have p0 : W7.drew.cell? ⟨B7, 0, none⟩ = some (.int .i64 (x : Int)) := s0
  have p1 : W7.drew.cell? ⟨B7, 1, none⟩ = some (.int .i64 (y : Int)) := s1
  have u1 : (W7.alloc (.cells #[.int .i64 (x : Int), .int .i64 (y : Int)] 192)).cell? ⟨pc, 1, none⟩ = some (.slice a n c) := keep (ext_alloc (Below.refl _ W7) _) (show W7.cell? _ = _ from d1)
  have D1 := Lib.hid d1
  have hloz : Hid (lo ≤ W7.drew.heap.size) := Nat.le_trans H.out.lo (Nat.le_trans (Nat.le_of_lt H.out.lt) e7.size)
  clear OWR e7 s0 s1 hW7
  go_region_law (first
    | (refine step_push_span W7.drew x y lo a n c (spV []) OWH.out hn2 hloz.out (by rfl) _ _ (by rfl) (by rfl) (by rfl) ?_; intro g6 c6 w6 r1 r2 r3; obtain ⟨m1, m2, m3, m4, m5, m6⟩ := HC7.out.push D1.out HNL.out r1 r2 r3; have M4 := Lib.hid m4; have M5 := Lib.hid m5; have M6 := Lib.hid m6; clear m4 m5 m6 r1 r2 r3)
    | fail)
  all_goals
    go_wp2
    go_returns
    exact ⟨rfl, _, M4.out, ((ButS.refl _ w).ext (ext_drew HEX.out)).trans M5.out, by
      rcases M6.out with r | r
      · exact .inl r
      · exact .inr (Nat.le_trans (ext_drew HEX.out).size r)⟩
set_option maxRecDepth 100000 in
set_option maxHeartbeats 4000000 in
theorem c_open (pc pt lo g0 d : Nat) (ways : List (List ByteArray)) (pre : List (Nat × Nat)) (f t A B : Nat) (w : World) (h : CurV w lo pc pt (some g0) (pre ++ [(f, t)])) (ht : TrieV w pt d ways) (hf : CurFacts d ways pre f t A B) (hft : f < t) (hdp : pre.length + 1 < d) (hd64 : d ≤ 64) (hwn : ways.length ≤ 1000000) :
    Calls Tryz.prog 107 #[.pointer (some ⟨pc, 0, none⟩)] w (OpenPost lo pc pt (some g0) (pre ++ [(f, t)]) (belowS ways pre.length f) w) := by
  obtain ⟨n, hnl, hn0⟩ : ∃ n, (pre ++ [(f, t)]).length = n ∧ n = pre.length + 1 := ⟨pre.length + 1, by simp, rfl⟩
  have he : endB (pre ++ [(f, t)]) = false := by rw [endB_snoc]; simp; omega
  have hN := hf.pos
  have AE : Hid (∀ q, Calls Tryz.prog 119 #[.pointer (some ⟨pc, 0, none⟩)] (w.drewN q) fun e w' => e = .returned (.bool false) ∧ ∃ m, w' = (w.drewN q).drewN m) := fun q => by
    have := c_atEnd pc pt lo (some g0) (pre ++ [(f, t)]) _ (h.ext (ext_drewN (Below.refl _ _) q))
    rwa [he] at this
  have AT : Hid (∀ q, Calls Tryz.prog 120 #[.pointer (some ⟨pc, 0, none⟩)] (w.drewN q) fun e w' => e = .returned (.int .i64 (n : Nat)) ∧ w' = w.drewN q) := fun q => by
    have := c_at pc pt lo (some g0) (pre ++ [(f, t)]) _ (h.ext (ext_drewN (Below.refl _ _) q))
    rwa [hnl] at this
  have DP : Hid (∀ q, Calls Tryz.prog 121 #[.pointer (some ⟨pt, 0, none⟩)] (w.drewN q) fun e w' => e = .returned (.int .i64 (d : Nat)) ∧ w' = w.drewN q) := fun q => c_depth pt d ways _ (ht.ext (ext_drewN (Below.refl _ _) q))
  have LN : Hid (∀ q, Calls Tryz.prog 122 #[.pointer (some ⟨pt, 0, none⟩)] (w.drewN q) fun e w' => e = .returned (.int .i64 (ways.length : Nat)) ∧ w' = w.drewN q) := fun q => c_lenT pt d ways _ (ht.ext (ext_drewN (Below.refl _ _) q))
  obtain ⟨a, c, h0, hc1, hfz, _⟩ := h.cells
  rw [hnl] at hc1
  have H := Lib.hid h
  have HT := Lib.hid ht
  obtain ⟨gl, t0, t1⟩ := ht.keys
  obtain ⟨k0a, k0c, z0, _⟩ := t1 0 (by omega)
  rw [Nat.zero_mul] at z0
  have q1 : ((n : Int) == (d : Int)) = false := beq_eq_false_iff_ne.2 (by omega)
  have q2 : ((ways.length : Int) == 0) = false := beq_eq_false_iff_ne.2 (by omega)
  have q3 : (0 : Int) < (d : Int) := by omega
  have hn2 : n ≤ 1000000 := by omega
  have HNL := Lib.hid hnl
  have L : Hid (∀ w1, Ext w w1 → Calls Tryz.prog 123 #[.pointer (some ⟨pc, 0, none⟩)] w1 fun e w' => e = .returned (.pointer (some ⟨g0, pre.length * 2, none⟩)) ∧ Ext w w' ∧ Ext w1 w') := fun w1 h1 => (c_last pc pt lo g0 pre f t w1 (H.out.ext h1)).mono fun e w' ⟨r1, q, r2⟩ => ⟨r1, by rw [r2]; exact ext_drewN h1 q, by rw [r2]; exact ext_drewN (Below.refl _ _) q⟩
  obtain ⟨g1, cc, e1, _, _, _, _, l0, l1, _⟩ := h.last
  cases e1
  have wb := wid_mono ways pre.length hf.seg.top
  have htop := hf.top
  have BL : Hid (∀ w2, Ext w w2 → Calls Tryz.prog 124 #[.pointer (some ⟨pt, 0, none⟩), .int .i64 (pre.length : Int), .int .i64 (f : Int)] w2 fun e w' => e = .returned (spanV (belowS ways pre.length f)) ∧ Ext w2 w') := fun w2 h2 => c_below pt d ways pre.length f w2 (HT.out.ext h2) hf.dep (by omega) hwn
  obtain ⟨k, hk⟩ : ∃ k, pre.length = k := ⟨_, rfl⟩
  obtain ⟨⟨x, y⟩, hxy⟩ : ∃ xy, belowS ways pre.length f = xy := ⟨_, rfl⟩
  rw [hxy] at BL ⊢
  rw [hk] at L l0 l1 BL hn0
  unfold spanV at BL
  dsimp only at BL
  obtain ⟨y0, hy⟩ : ∃ y0, wid ways 0 ways.length = y0 := ⟨_, rfl⟩
  rw [hy] at z0
  have r1 : IntKind.i64.wrap ((n : Int) - 1) = (k : Int) := by rw [IntKind.wrap_i64]; omega
  clear h ht hnl hn0 he t1 hN hy hxy hk hf hft hdp wb htop
  go_enter Tryz.func107, Tryz.ntmps107
  go_wp2
  go_quiet (first
    | (go_at_call 119; exact Calls.quiet_of (AE.out _))
    | (go_at_call 120; exact Calls.quiet_of_same (AT.out _))
    | (go_at_call 121; exact Calls.quiet_of_same (DP.out _))
    | (go_at_call 122; exact Calls.quiet_of_same (LN.out _)))
  go_upto_region 3 with (fail)
  refine wp_gen (fun W3 hW3 => ?_)
  have e3 : Ext w W3 := by rw [hW3]; exact ext_drewN (Below.refl _ _) _
  have k0 := keep e3 h0
  have k1 := keep e3 t0
  have k2 := keep e3 z0
  clear hW3
  go_upto_region 4 with (fail)
  refine wp_gen (fun W4 hW4 => ?_)
  have e4 : Ext w W4 := by rw [hW4]; exact ext_alloc e3 _
  have b0 : W4.cell? ⟨W3.heap.size, 0, none⟩ = some (.int .i64 0) := by rw [hW4]; go_simp
  have b1 : W4.cell? ⟨W3.heap.size, 1, none⟩ = some (.int .i64 (y0 : Int)) := by rw [hW4]; go_simp
  have b2 : W4.frozen? ⟨W3.heap.size, 0, none⟩ = false := by rw [hW4]; go_simp
  have b3 : W4.frozen? ⟨W3.heap.size, 1, none⟩ = false := by rw [hW4]; go_simp
  have b4 : W3.heap.size < W4.heap.size := by rw [hW4]; simp
  obtain ⟨B7, hB7⟩ : ∃ B7, W3.heap.size = B7 := ⟨_, rfl⟩
  have hBz : w.heap.size ≤ B7 := by rw [← hB7]; exact e3.size
  rw [hB7] at b0 b1 b2 b3 b4 ⊢
  clear hW4 k0 k1 k2 e3 hB7
  go_upto_region 6 with (go_at_call 123; (with_reducible refine (L.out _ e4).mono ?_); rintro e w5 ⟨rfl, E5, E54⟩)
  have m0 := keep E5 h0
  have m1 := keep E5 hc1
  have m2 := keep E5 l0
  have E5h := Lib.hid E5
  go_still_tail 14, (by kernel_rfl)
  change wpList _ _ _ _ _ w5.drew
  have B0h := Lib.hid (keep E54 b0)
  have B1h := Lib.hid (keep E54 b1)
  have F0h := Lib.hid ((E54.frozen (p := ⟨B7, 0, none⟩) b4).trans b2)
  have F1h := Lib.hid ((E54.frozen (p := ⟨B7, 1, none⟩) b4).trans b3)
  have b5 : Hid (B7 < w5.drew.heap.size) := Nat.lt_of_lt_of_le b4 E54.size
  clear b0 b1 b2 b3 b4 E54 e4
  go_upto_region 7 with (go_at_call 124; (with_reducible refine (BL.out _ (ext_drew E5)).mono ?_); rintro e w6 ⟨rfl, E6⟩; have c0 := keep E6 (show w5.drew.cell? ⟨B7, 0, none⟩ = _ from B0h.out); have c1 := keep E6 (show w5.drew.cell? ⟨B7, 1, none⟩ = _ from B1h.out); have c2 := (E6.frozen (p := ⟨B7, 0, none⟩) b5.out).trans F0h.out; have c3 := (E6.frozen (p := ⟨B7, 1, none⟩) b5.out).trans F1h.out)
  refine wp_gen (fun W7 hW7 => ?_)
  have e7 : Ext w W7 := by rw [hW7]; exact ext_set (ext_set (ext_trans (ext_drew E5h.out) E6) hBz _) hBz _
  have s0 : W7.cell? ⟨B7, 0, none⟩ = some (.int .i64 (x : Int)) := by rw [hW7]; go_simp
  have s1 : W7.cell? ⟨B7, 1, none⟩ = some (.int .i64 (y : Int)) := by rw [hW7]; go_simp
  have HEX := Lib.hid e7
  have HC7 := Lib.hid (H.out.ext (ext_drew e7))
  have OW7 := Lib.hid HC7.out.row
  have d0 : W7.drew.cell? ⟨pc, 0, none⟩ = some (.pointer (some ⟨pt, 0, none⟩)) := keep (ext_drew e7) h0
  have d1 : W7.drew.cell? ⟨pc, 1, none⟩ = some (.slice a n c) := keep (ext_drew e7) hc1
  obtain ⟨OWR, _⟩ := OW7.out a n c d1 HNL.out
  have OWH := Lib.hid OWR
  have p0 : W7.drew.cell? ⟨B7, 0, none⟩ = some (.int .i64 (x : Int)) := s0
  have p1 : W7.drew.cell? ⟨B7, 1, none⟩ = some (.int .i64 (y : Int)) := s1
  have u1 : (W7.alloc (.cells #[.int .i64 (x : Int), .int .i64 (y : Int)] 192)).cell? ⟨pc, 1, none⟩ = some (.slice a n c) := keep (ext_alloc (Below.refl _ W7) _) (show W7.cell? _ = _ from d1)
  have D1 := Lib.hid d1
  have hloz : Hid (lo ≤ W7.drew.heap.size) := Nat.le_trans H.out.lo (Nat.le_trans (Nat.le_of_lt H.out.lt) e7.size)
  clear OWR e7 s0 s1 hW7
  go_region_law (first
    | (refine step_push_span W7.drew x y lo a n c (spV (pre ++ [(f, t)])) OWH.out hn2 hloz.out (by rfl) _ _ (by rfl) (by rfl) (by rfl) ?_; intro g6 c6 w6 r1 r2 r3; obtain ⟨m1, m2, m3, m4, m5, m6⟩ := HC7.out.push D1.out HNL.out r1 r2 r3; have M4 := Lib.hid m4; have M5 := Lib.hid m5; have M6 := Lib.hid m6; clear m4 m5 m6 r1 r2 r3)
    | fail)
  all_goals
    go_wp2
    go_returns
    exact ⟨rfl, _, M4.out, ((ButS.refl _ w).ext (ext_drew HEX.out)).trans M5.out, by
      rcases M6.out with r | r
      · exact .inl r
      · exact .inr (Nat.le_trans (ext_drew HEX.out).size r)⟩
end Go.Proofs.YtpgbenijjodoeaaGreat
