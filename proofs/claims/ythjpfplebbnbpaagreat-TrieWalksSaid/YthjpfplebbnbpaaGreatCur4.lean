/- The walks of a cursor's Keys and Open. -/
import Derived.Test.YthjpfplebbnbpaaGreatCur3
namespace Go.Proofs.YthjpfplebbnbpaaGreat
open Go.ChangeShapes Go.WideShapes Go.ChangeAt Go.RowKit
def KeysPost (ks : List ByteArray) (w : World) (e : Ending) (w' : World) : Prop := ∃ a n c, e = .returned (.slice a n c) ∧ w'.ownsRow w.heap.size 9 1 (.slice a n c) n (ks.map Value.string) ∧ Ext w w' ∧ n = ks.length
theorem c_keys_no (pc pt lo : Nat) (rb : Option Nat) (sp : List (Nat × Nat)) (w : World) (h : CurV w lo pc pt rb sp) (hn : sp = [] ∨ endB sp = true) :
    Calls Tryz.prog 35 #[.pointer (some ⟨pc, 0, none⟩)] w (KeysPost [] w) := by
  have KP : Hid (∀ w', Ext w w' → KeysPost [] w (.returned (.slice none 0 0)) w') := fun w' h => ⟨none, 0, 0, rfl, World.ownsRow_nil _ _ _ _, h, rfl⟩
  rcases sp.eq_nil_or_concat with rfl | ⟨pre, ⟨f, t⟩, e⟩
  · have L := Lib.hid (c_last_nil pc pt lo rb w h)
    clear h hn
    go_enter Tryz.func35, Tryz.ntmps35
    go_wp2_with (go_at_call 61; (with_reducible refine L.out.mono ?_); rintro e w1 ⟨rfl, hw1⟩; obtain rfl := hw1.symm)
    go_returns
    exact KP.out _ (Below.refl _ _)
  · rw [List.concat_eq_append] at e
    subst e
    have hn2 : endB (pre ++ [(f, t)]) = true := by
      rcases hn with hn | hn
      · simp at hn
      · exact hn
    obtain ⟨g, c, rfl, _⟩ := h.last
    have L := Lib.hid (c_last pc pt lo g pre f t w h)
    have H := Lib.hid h
    have AE : Hid (∀ w1, Ext w w1 → Calls Tryz.prog 40 #[.pointer (some ⟨pc, 0, none⟩)] w1 fun e w' => e = .returned (.bool true) ∧ Ext w w') := fun w1 h1 => by
      have A := c_atEnd pc pt lo (some g) (pre ++ [(f, t)]) w1 (H.out.ext h1)
      rw [hn2] at A
      exact A.mono fun e w' ⟨r1, q, r2⟩ => ⟨r1, by rw [r2]; exact ext_drewN h1 q⟩
    clear h hn hn2
    go_enter Tryz.func35, Tryz.ntmps35
    go_wp2_with (first
      | (go_at_call 61; (with_reducible refine L.out.mono ?_); rintro e w1 ⟨rfl, q1, hw1⟩; have E1 : Ext w w1 := (by rw [hw1]; exact ext_drewN (Below.refl _ _) q1); clear hw1)
      | (go_at_call 40; (with_reducible refine (AE.out _ E1).mono ?_); rintro e w2 ⟨rfl, E2⟩))
    go_returns
    exact KP.out _ E2
theorem CurV.spans {w : World} {lo pc pt : Nat} {rb : Option Nat} {sp : List (Nat × Nat)} (h : CurV w lo pc pt rb sp) (hne : sp ≠ []) : ∃ g c, w.cell? ⟨pc, 0, none⟩ = some (.pointer (some ⟨pt, 0, none⟩)) ∧ w.cell? ⟨pc, 1, none⟩ = some (.slice (some ⟨g, 0, none⟩) sp.length c) ∧ ∀ i s, sp[i]? = some s → w.cell? ⟨g, i * 2, none⟩ = some (.int .i64 (s.1 : Nat)) ∧ w.cell? ⟨g, i * 2 + 1, none⟩ = some (.int .i64 (s.2 : Nat)) := by
  obtain ⟨⟨a, c, h1, h2, h3⟩, _⟩ := h
  rcases h2.2 with ⟨e, e2⟩ | ⟨g, c', cur, e, hb, hg, _⟩
  · exact absurd (List.eq_nil_of_length_eq_zero e2) hne
  · cases e
    refine ⟨g, c, by simp [World.cell?, h1], by simp [World.cell?, h1], fun i s hs => ?_⟩
    obtain ⟨s1, s2⟩ := spV_at sp i s hs
    have c1 := h2.cells (g := g) rfl _ _ s1
    have c2 := h2.cells (g := g) rfl _ _ s2
    rw [Addr.add_lit, Nat.zero_add] at c1 c2
    exact ⟨c1, c2⟩
theorem keysOf_take {ways : List (List ByteArray)} {sp : List (Nat × Nat)} {i : Nat} {s : Nat × Nat} (h : sp[i]? = some s) : keysOf ways (sp.take (i + 1)) = keysOf ways (sp.take i) ++ [keyAt ways i (st ways i s.1)] := by
  have hl := (List.getElem?_eq_some_iff.1 h).1
  rw [take_at h, keysOf_snoc, List.length_take, Nat.min_eq_left (by omega)]
/-- One text more, at a step of a region that draws its order. -/
theorem step_push_str {ops : Array Oper} {o : Oper} {a : Act} {K : Act → World → Prop} {Q : Exit → Act → World → Prop} {E : Prop} (W0 : World) (z : ByteArray) (base : Nat) (fa : Option Addr) (n fc : Nat) (l : List ByteArray) (hown : W0.ownsRow base 9 1 (.slice fa n fc) n (l.map Value.string)) (hn : n ≤ 1000000) (hbase : base ≤ W0.heap.size) (hgd : o.guard = none) (s x : Operand)
    (ho : o.op = .call { callee := .builtin .append, args := #[s, x], argTypes := #[46, 46] }) (hs : a.eval s = .slice fa n fc) (hx : a.eval x = .slice (some ⟨W0.heap.size, 0, none⟩) 1 1)
    (h : ∀ g cap w', w'.ownsRow base 9 1 (.slice (some ⟨g, 0, none⟩) (n + 1) cap) (n + 1) ((l ++ [z]).map Value.string) → (W0.alloc (.cells #[.string z] 9)).grownBy w' (Value.slice fa n fc).ownBlock → K (a.put o.dst (.slice (some ⟨g, 0, none⟩) (n + 1) cap)) w') :
    if Region.wanted o (yielded ops a.tmps) = true then Oper.wp Tryz.prog o a (W0.alloc (.cells #[.string z] 9)) K Q else E := by
  obtain ⟨j0, hj, yz0, yz1, yz2⟩ := info_parts info_str
  exact step_append_lies _ hgd s x 46 ho base 9 j0 (.string ⟨#[]⟩) 1 16 Tryz.underlying46 hj yz0 yz1 yz2 rfl (by decide) _ n (l.map Value.string) hs (hown.alloc _) ⟨W0.heap.size, 0, none⟩ 1 1 [.string z] hx rfl (news1 W0 _ _) (by simp [Value.oneCell']) (by omega) (by unfold maxLen; omega) (by omega) (by simp; omega) _ rfl fun g cap w1 hown1 hgrow _ _ => h g cap w1 (by rw [List.map_append]; exact hown1) hgrow
set_option maxRecDepth 100000 in
set_option maxHeartbeats 1000000 in
theorem c_keys (pc pt lo d : Nat) (ways : List (List ByteArray)) (rb : Option Nat) (sp : List (Nat × Nat)) (A B : Nat) (w : World) (h : CurV w lo pc pt rb sp) (ht : TrieV w pt d ways) (hw : Ways d ways) (hc : CurSt d ways sp A B) (he : endB sp = false) (hd : d ≤ 64) (hdl : sp.length ≤ d) :
    Calls Tryz.prog 35 #[.pointer (some ⟨pc, 0, none⟩)] w (KeysPost (keysOf ways sp) w) := by
  have EACH := Lib.hid (hc.each hw he)
  have hne := hc.ne
  have H := Lib.hid h
  obtain ⟨g, c, y0, y1, y2⟩ := h.spans hne
  have Y2 := Lib.hid y2
  have LA : Hid (Calls Tryz.prog 61 #[.pointer (some ⟨pc, 0, none⟩)] w fun e w' => (∃ b o, e = .returned (.pointer (some ⟨b, o, none⟩))) ∧ Ext w w') := by
    rcases sp.eq_nil_or_concat with e | ⟨pre, ⟨f, t⟩, e⟩
    · exact absurd e hne
    · rw [List.concat_eq_append] at e
      subst e
      obtain ⟨g1, c1, rfl, _⟩ := h.last
      exact (c_last pc pt lo g1 pre f t w h).mono fun e w' ⟨r1, q, r2⟩ => ⟨⟨_, _, r1⟩, by rw [r2]; exact ext_drewN (Below.refl _ _) q⟩
  have AE : Hid (∀ w1, Ext w w1 → Calls Tryz.prog 40 #[.pointer (some ⟨pc, 0, none⟩)] w1 fun e w' => e = .returned (.bool false) ∧ Ext w w') := fun w1 h1 => by
    have A := c_atEnd pc pt lo rb sp w1 (H.out.ext h1)
    rw [he] at A
    exact A.mono fun e w' ⟨r1, q, r2⟩ => ⟨r1, by rw [r2]; exact ext_drewN h1 q⟩
  obtain ⟨gl, t0, t1⟩ := ht.keys
  have HK := Lib.hid t1
  obtain ⟨m, hm⟩ : ∃ m, sp.length = m := ⟨_, rfl⟩
  have HM := Lib.hid hm
  rw [hm] at y1 hdl
  clear h hne y2 hc he t1 ht hm
  go_enter Tryz.func35, Tryz.ntmps35
  go_upto_region 4 with (first
    | (go_at_call 61; (with_reducible refine LA.out.mono ?_); rintro e w1 ⟨⟨b1, o1, rfl⟩, E1⟩)
    | (go_at_call 40; (with_reducible refine (AE.out _ E1).mono ?_); rintro e w2 ⟨rfl, E2⟩))
  have k0 := keep E2 y0
  have k1 := keep E2 y1
  have E2h := Lib.hid E2
  clear E2 E1
  go_wp2
  go_loopw [3, 18] (fun v3 v18 wj => ∃ i : Nat, i ≤ m ∧ v18 = .int .i64 (i : Int) ∧ wj.ownsRow w.heap.size 9 1 v3 i ((keysOf ways (sp.take i)).map Value.string) ∧ Ext w wj) (fun _ v18 _ => m - (intOf v18).toNat)
  case atStart => exact ⟨0, Nat.zero_le _, rfl, World.ownsRow_nil _ _ _ _, E2h.out⟩
  case round =>
    obtain ⟨i, him, rfl, hown, hex⟩ := hrel
    have OW := Lib.hid hown
    have EX := Lib.hid hex
    by_cases hlt : i < m
    · have hlti : (i : Int) < (m : Int) := by omega
      obtain ⟨⟨f, t⟩, hs⟩ : ∃ s, sp[i]? = some s := ⟨_, List.getElem?_eq_getElem (by rw [HM.out]; exact hlt)⟩
      obtain ⟨u1, u2⟩ := EACH.out i _ hs
      obtain ⟨v1, v2⟩ := Y2.out i _ hs
      dsimp only at u2 v1 v2
      obtain ⟨ka, kc, z1, z2, _, _⟩ := HK.out i u1
      obtain ⟨y, kb, ko, hy, rfl, hc⟩ := z2.2.at u2
      rw [keysM_at ways _ f u2] at hy
      have hk : keyAt ways i (st ways i f) = y := by cases hy; rfl
      have KT : Hid (keysOf ways (sp.take (i + 1)) = keysOf ways (sp.take i) ++ [y]) := by show _ = _; rw [keysOf_take hs, hk]
      have c0 := keep hex v1
      have c1 := keep hex v2
      have c2 := keep hex y0
      have c3 := keep hex t0
      have c4 := keep hex z1
      have c5 := keep hex (show w.cell? ⟨kb, ko + f, none⟩ = some (.string y) by simpa [strAt] using hc)
      obtain ⟨M, hM⟩ : ∃ M, wid ways i ways.length = M := ⟨_, rfl⟩
      rw [hM] at c4 u2
      have l1 : (i : Int) < (d : Int) := by omega
      have l2 : (f : Int) < (M : Int) := by omega
      clear hs v1 v2 z1 z2 hy hc hk hown hex
      go_upto_region 7 with (fail)
      refine wp_gen (fun W7 hW7 => ?_)
      have e7 : Ext wr W7 := by rw [hW7]; exact ext_alloc (Below.refl _ _) _
      have s0 : W7.cell? ⟨wr.heap.size, 0, none⟩ = some (.int .i64 (f : Int)) := by rw [hW7]; go_simp
      have d2 := keep e7 c2
      have d3 := keep e7 c3
      have d4 := keep e7 c4
      have d5 := keep e7 c5
      have OW7 := Lib.hid (up_ext OW.out (ext_drew e7))
      have hz : Hid (w.heap.size ≤ W7.drew.heap.size) := Nat.le_trans EX.out.size e7.size
      have EX7 : Hid (Ext w W7.drew) := ext_trans EX.out (ext_drew e7)
      clear hW7 e7 c0 c1 c2 c3 c4 c5
      obtain ⟨a9, c9, rfl, _⟩ := own_form OW.out
      have q0 := keep (ext_drew (Below.refl _ W7)) s0
      have q2 := keep (ext_drew (Below.refl _ W7)) d2
      have q3 := keep (ext_drew (Below.refl _ W7)) d3
      have q4 := keep (ext_drew (Below.refl _ W7)) d4
      have q5 := keep (ext_drew (Below.refl _ W7)) d5
      have him3 : i ≤ 1000000 := by omega
      go_region_law (first
        | (refine step_push_str W7.drew y w.heap.size a9 i c9 (keysOf ways (sp.take i)) OW7.out him3 hz.out (by rfl) _ _ (by rfl) (by rfl) (by rfl) ?_; intro g6 c6 w6 p1 p2; have P1 := Lib.hid p1; have P2 := Lib.hid p2; clear p1 p2)
        | fail)
      all_goals
        go_wp2
        go_roundw
        case rel =>
          refine ⟨i + 1, by omega, by go_num, ?_, ?_⟩
          · rw [KT.out]
            exact P1.out
          · exact ext_ownB (ext_alloc EX7.out _) P2.out (fun g e => (OW7.out.lt g e).1)
        case measure => simp [intOf]; omega
    · obtain rfl : i = m := by omega
      have hge : ¬ (i : Int) < (i : Int) := by omega
      obtain ⟨a9, c9, rfl, _⟩ := own_form hown
      have KP : Hid (KeysPost (keysOf ways sp) w (.returned (.slice a9 i c9)) wr) := by
        have h1 := OW.out
        rw [List.take_of_length_le (by rw [HM.out]; exact Nat.le_refl _)] at h1
        exact ⟨a9, i, c9, rfl, h1, EX.out, by rw [keysOf_len, HM.out]⟩
      clear hown hex
      go_wp2
      go_returns
      exact KP.out
end Go.Proofs.YthjpfplebbnbpaaGreat
