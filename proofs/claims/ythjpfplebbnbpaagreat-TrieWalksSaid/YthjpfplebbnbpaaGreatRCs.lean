/- The document's cursor in memory; the walks of ended, At, AtEnd, Key, keys, Keys, Count. The document's cursor: the walks of keys, Keys, Count, Up, Next. The document's cursor: the walks of Up and Next. The document's cursor: the walks of Next and Seek. The document's cursor: the walk of Open. The document's cursor and the program's: what the levels hold by the spans; each call of the document's cursor, by the spans. -/
import Derived.Test.YthjpfplebbnbpaaGreatRFol
import Derived.Test.YthjpfplebbnbpaaGreatStep
namespace Go.Proofs.YthjpfplebbnbpaaGreat
open Go.ChangeShapes Go.WideShapes Go.ChangeAt Go.RowKit
/-- The open levels of the document's cursor: what may be met, and the place in that. -/
abbrev RLv : Type := List ByteArray × Nat
/-- The cursor's blocks. -/
def RS (pc : Nat) (vL vI : Value) (vs : List Value) (b : Nat) : Prop := b = pc ∨ vL.ownBlock = some b ∨ vI.ownBlock = some b ∨ ∃ v ∈ vs, v.ownBlock = some b
structure RCurV (w : World) (lo pc rt : Nat) (vL vI : Value) (vs : List Value) (ls : List RLv) : Prop where
  top : w.heap[pc]? = some (.cells #[.pointer (some ⟨rt, 0, none⟩), vL, vI] 39 (0, 0))
  rowL : w.ownsRow lo 46 1 vL ls.length vs
  rows : RowsAt lo w vs (ls.map (·.1))
  rowI : w.ownsRow lo 3 1 vI ls.length (ls.map fun p => .int .i64 (p.2 : Nat))
  lo : lo ≤ pc
theorem RCurV.ext {w w' : World} {lo pc rt : Nat} {vL vI : Value} {vs : List Value} {ls : List RLv} (h : RCurV w lo pc rt vL vI vs ls) (e : Ext w w') : RCurV w' lo pc rt vL vI vs ls :=
  ⟨(e.block pc (Array.getElem?_eq_some_iff.1 h.top).1).trans h.top, up_ext h.rowL e, h.rows.ext e, up_ext h.rowI e, h.lo⟩
theorem RCurV.but {T : Nat → Prop} {w w' : World} {lo pc rt : Nat} {vL vI : Value} {vs : List Value} {ls : List RLv} (h : RCurV w lo pc rt vL vI vs ls) (b : ButS T w w') (hs : ∀ k, RS pc vL vI vs k → ¬ T k) : RCurV w' lo pc rt vL vI vs ls :=
  ⟨(b.block pc (Array.getElem?_eq_some_iff.1 h.top).1 (hs pc (.inl rfl))).trans h.top, b.own h.rowL (fun k e => hs k (.inr (.inl e))), ⟨h.rows.1, fun i r v hr hv => b.own (h.rows.2 i r v hr hv) (fun k e => hs k (.inr (.inr (.inr ⟨v, List.mem_of_getElem? hv, e⟩))))⟩, b.own h.rowI (fun k e => hs k (.inr (.inr (.inl e)))), h.lo⟩
theorem RCurV.low {w : World} {lo pc rt : Nat} {vL vI : Value} {vs : List Value} {ls : List RLv} (h : RCurV w lo pc rt vL vI vs ls) {b : Nat} (hb : RS pc vL vI vs b) : lo ≤ b ∧ b < w.heap.size := by
  rcases hb with rfl | hb | hb | ⟨v, hv, hb⟩
  · exact ⟨h.lo, (Array.getElem?_eq_some_iff.1 h.top).1⟩
  · exact h.rowL.lt b hb
  · exact h.rowI.lt b hb
  · obtain ⟨i, hi⟩ := List.mem_iff_getElem?.1 hv
    obtain ⟨r, hr⟩ : ∃ r, (ls.map (·.1))[i]? = some r := ⟨_, List.getElem?_eq_getElem (by have := (List.getElem?_eq_some_iff.1 hi).1; have := h.rows.1; omega)⟩
    exact (h.rows.2 i r v hr hi).lt b hb
theorem RCurV.cells {w : World} {lo pc rt : Nat} {vL vI : Value} {vs : List Value} {ls : List RLv} (h : RCurV w lo pc rt vL vI vs ls) : ∃ a c a' c', vL = .slice a ls.length c ∧ vI = .slice a' ls.length c' ∧ w.cell? ⟨pc, 0, none⟩ = some (.pointer (some ⟨rt, 0, none⟩)) ∧ w.cell? ⟨pc, 1, none⟩ = some (.slice a ls.length c) ∧ w.cell? ⟨pc, 2, none⟩ = some (.slice a' ls.length c') ∧ w.frozen? ⟨pc, 1, none⟩ = false ∧ w.frozen? ⟨pc, 2, none⟩ = false ∧ ls.length ≤ c ∧ ls.length ≤ c' := by
  have ht := h.top
  obtain ⟨a, c, rfl, h1⟩ := own_form h.rowL
  obtain ⟨a', c', rfl, h2⟩ := own_form h.rowI
  exact ⟨a, c, a', c', rfl, rfl, by simp [World.cell?, ht], by simp [World.cell?, ht], by simp [World.cell?, ht], by simp [World.frozen?, ht], by simp [World.frozen?, ht], h1, h2⟩
/-- What lies at a level. -/
theorem RCurV.level {w : World} {lo pc rt : Nat} {a a' : Option Addr} {c c' : Nat} {vs : List Value} {ls : List RLv} (h : RCurV w lo pc rt (.slice a ls.length c) (.slice a' ls.length c') vs ls) {i : Nat} {l : List ByteArray} {k : Nat} (hi : ls[i]? = some (l, k)) : ∃ g g' b cb, a = some ⟨g, 0, none⟩ ∧ a' = some ⟨g', 0, none⟩ ∧ w.cell? ⟨g, i, none⟩ = some (.slice b l.length cb) ∧ StrsAt w b l.length l ∧ w.cell? ⟨g', i, none⟩ = some (.int .i64 (k : Nat)) ∧ w.frozen? ⟨g', i, none⟩ = false := by
  have hlt := (List.getElem?_eq_some_iff.1 hi).1
  obtain ⟨g, p, e, _⟩ := own_formS h.rowL (by omega)
  obtain ⟨g', p', e', _⟩ := own_formS h.rowI (by omega)
  cases e
  cases e'
  obtain ⟨v, hv⟩ : ∃ v, vs[i]? = some v := ⟨_, List.getElem?_eq_getElem (by have := h.rows.1; rw [List.length_map] at this; omega)⟩
  have ho := h.rows.2 i l v (by rw [List.getElem?_map, hi]; rfl) hv
  obtain ⟨b, cb, rfl, _⟩ := own_form ho
  have k1 := h.rowL.cells (g := g) rfl i _ hv
  have k2 := h.rowI.cells (g := g') rfl i (.int .i64 (k : Nat)) (by rw [List.getElem?_map, hi]; rfl)
  rw [Addr.add_lit, Nat.zero_add] at k1 k2
  exact ⟨g, g', b, cb, rfl, rfl, k1, own_strs ho (own_len ho).1, k2, h.rowI.frozenAt _⟩
/-- Is it at the end of the last level? -/
def rend (ls : List RLv) : Bool := match ls.getLast? with
  | some p => decide (p.2 = p.1.length)
  | none => false
theorem rend_nil : rend [] = false := rfl
theorem rend_snoc (pre : List RLv) (l : List ByteArray) (k : Nat) : rend (pre ++ [(l, k)]) = decide (k = l.length) := by simp [rend]
set_option maxRecDepth 100000 in
theorem c_rended (lo pc rt : Nat) (vL vI : Value) (vs : List Value) (ls : List RLv) (w : World) (h : RCurV w lo pc rt vL vI vs ls) (hn : ls.length ≤ 64) :
    Calls Tryz.prog 62 #[.pointer (some ⟨pc, 0, none⟩)] w fun e w' => e = .returned (.bool (rend ls)) ∧ ∃ q, w' = w.drewN q := by
  obtain ⟨a, c, a', c', rfl, rfl, c0, c1, c2, _, _, _, _⟩ := h.cells
  rcases snoc_cases ls with rfl | ⟨pre, ⟨l, k⟩, rfl⟩
  · rw [rend_nil]
    rw [List.length_nil] at c1 c2
    clear h hn
    go_enter Tryz.func62, Tryz.ntmps62
    go_upto_region 2 with (fail)
    go_quiet (fail)
    go_wp2
    go_returns
    exact ⟨rfl, _, rfl⟩
  · rw [rend_snoc]
    obtain ⟨g, g', b, cb, rfl, rfl, k1, k2, k3, _⟩ := h.level (i := pre.length) (l := l) (k := k) (by simp)
    obtain ⟨m, hm⟩ : ∃ m, pre.length = m := ⟨_, rfl⟩
    have hl : (pre ++ [(l, k)]).length = m + 1 := by simp [hm]
    rw [hl] at c1 c2 hn
    rw [hm] at k1 k3
    obtain ⟨n, hnn⟩ : ∃ n, l.length = n := ⟨_, rfl⟩
    rw [hnn] at k1 ⊢
    have w1 : IntKind.i64.wrap (m : Int) = (m : Int) := by rw [IntKind.wrap_i64]; omega
    have w2 : (m : Int) < (m : Int) + 1 := by omega
    have w3 : (0 : Int) < (m : Int) + 1 := by omega
    obtain ⟨q, hq⟩ : ∃ q, decide (k = n) = q := ⟨_, rfl⟩
    have hq1 : ((k : Int) == (n : Int)) = q := by
      rw [← hq]
      by_cases e : k = n
      · simp [e]
      · rw [decide_eq_false e]
        exact beq_eq_false_iff_ne.2 (by omega)
    have hq2 : (k == n) = q := by
      rw [← hq]
      by_cases e : k = n
      · simp [e]
      · simp [e]
    rw [hq]
    clear h k2 hm hl hnn hq
    cases q with
    | true =>
      go_enter Tryz.func62, Tryz.ntmps62
      go_upto_region 2 with (fail)
      go_quiet (fail)
      go_wp2
      go_returns
      exact ⟨rfl, _, rfl⟩
    | false =>
      go_enter Tryz.func62, Tryz.ntmps62
      go_upto_region 2 with (fail)
      go_quiet (fail)
      go_wp2
      go_returns
      exact ⟨rfl, _, rfl⟩
theorem ptr_eqRC (w : World) (b : Nat) : (binOp .eql 36 (.pointer (some ⟨b, 0, none⟩)) (.pointer none)).run Tryz.prog w = .ok (.bool false) w := by kernel_rfl
theorem nil_eqRC (w : World) : (binOp .eql 36 (.pointer none) (.pointer none)).run Tryz.prog w = .ok (.bool true) w := by kernel_rfl
theorem ptr_neRC (w : World) (b : Nat) : (binOp .neq 36 (.pointer (some ⟨b, 0, none⟩)) (.pointer none)).run Tryz.prog w = .ok (.bool true) w := by kernel_rfl
theorem nil_neRC (w : World) : (binOp .neq 36 (.pointer none) (.pointer none)).run Tryz.prog w = .ok (.bool false) w := by kernel_rfl
theorem c_rAt (lo pc rt : Nat) (vL vI : Value) (vs : List Value) (ls : List RLv) (w : World) (h : RCurV w lo pc rt vL vI vs ls) :
    Calls Tryz.prog 37 #[.pointer (some ⟨pc, 0, none⟩)] w fun e w' => e = .returned (.int .i64 (ls.length : Nat)) ∧ w' = w := by
  obtain ⟨a, c, a', c', rfl, rfl, c0, c1, c2, _, _, _, _⟩ := h.cells
  have eqp := ptr_eqRC
  clear h
  go_enter Tryz.func37, Tryz.ntmps37
  go_wp2
  go_returns
  exact ⟨rfl, rfl⟩
theorem c_rAtEnd (lo pc rt : Nat) (vL vI : Value) (vs : List Value) (ls : List RLv) (w : World) (h : RCurV w lo pc rt vL vI vs ls) (hn : ls.length ≤ 64) :
    Calls Tryz.prog 41 #[.pointer (some ⟨pc, 0, none⟩)] w fun e w' => e = .returned (.bool (rend ls)) ∧ Ext w w' := by
  have EN := Lib.hid (c_rended lo pc rt vL vI vs ls w h hn)
  have eqp := ptr_neRC
  clear h
  go_enter Tryz.func41, Tryz.ntmps41
  go_wp2_with (go_at_call 62; (with_reducible refine EN.out.mono ?_); rintro e w1 ⟨rfl, q, rfl⟩)
  go_returns
  exact ⟨rfl, ext_drewN (Below.refl _ _) _⟩
/-- The constant of the last level; none at an end. -/
def rkey (ls : List RLv) : ByteArray := match ls.getLast? with
  | some p => p.1[p.2]?.getD ⟨#[]⟩
  | none => ⟨#[]⟩
theorem rkey_snoc (pre : List RLv) (l : List ByteArray) (k : Nat) : rkey (pre ++ [(l, k)]) = l[k]?.getD ⟨#[]⟩ := by simp [rkey]
set_option maxRecDepth 100000 in
theorem c_rKey (lo pc rt : Nat) (vL vI : Value) (vs : List Value) (ls : List RLv) (w : World) (h : RCurV w lo pc rt vL vI vs ls) (hn : ls.length ≤ 64) (hin : ∀ p ∈ ls, p.2 ≤ p.1.length) :
    Calls Tryz.prog 39 #[.pointer (some ⟨pc, 0, none⟩)] w fun e w' => e = .returned (.string (rkey ls)) ∧ Ext w w' := by
  have EN := c_rended lo pc rt vL vI vs ls w h hn
  have H := Lib.hid h
  obtain ⟨a, c, a', c', rfl, rfl, c0, c1, c2, _, _, _, _⟩ := h.cells
  have eqp := ptr_eqRC
  rcases snoc_cases ls with rfl | ⟨pre, ⟨l, k⟩, rfl⟩
  · rw [List.length_nil] at c1 c2
    clear h hn EN
    go_enter Tryz.func39, Tryz.ntmps39
    go_wp2
    go_returns
    exact ⟨rfl, Below.refl _ _⟩
  · rw [rend_snoc] at EN
    rw [rkey_snoc]
    have hkl := hin (l, k) (by simp)
    dsimp only at hkl
    obtain ⟨g, g', b, cb, rfl, rfl, k1, k2, k3, _⟩ := h.level (i := pre.length) (l := l) (k := k) (by simp)
    obtain ⟨m, hm⟩ : ∃ m, pre.length = m := ⟨_, rfl⟩
    have hl : (pre ++ [(l, k)]).length = m + 1 := by simp [hm]
    rw [hl] at c1 c2 hn
    rw [hm] at k1 k3
    have w3 : ¬ ((m : Int) + 1 = 0) := by omega
    by_cases hk : k = l.length
    · rw [decide_eq_true hk] at EN
      have EN := Lib.hid EN
      have HK : Hid (l[k]?.getD ⟨#[]⟩ = (⟨#[]⟩ : ByteArray)) := by
        show _ = _
        rw [List.getElem?_eq_none (by omega)]
        rfl
      clear h k2 hm hl hk hin
      go_enter Tryz.func39, Tryz.ntmps39
      go_wp2_with (go_at_call 62; (with_reducible refine EN.out.mono ?_); rintro e w1 ⟨rfl, q, rfl⟩)
      go_returns
      exact ⟨by rw [HK.out]; rfl, ext_drewN (Below.refl _ _) _⟩
    · rw [decide_eq_false hk] at EN
      have EN := Lib.hid EN
      obtain ⟨x, b2, o2, hx, e, h2⟩ := k2.2.at (i := k) (by omega)
      subst e
      have k4 : w.cell? ⟨b2, o2 + k, none⟩ = some (.string x) := by simpa [strAt] using h2
      have HK : Hid (l[k]?.getD ⟨#[]⟩ = x) := by show _ = _; rw [hx]; rfl
      obtain ⟨n, hnn⟩ : ∃ n, l.length = n := ⟨_, rfl⟩
      rw [hnn] at k1 hk hkl
      have w1 : IntKind.i64.wrap (m : Int) = (m : Int) := by rw [IntKind.wrap_i64]; omega
      have w2 : (m : Int) < (m : Int) + 1 := by omega
      have w4 : (k : Int) < (n : Int) := by omega
      clear h k2 hm hl hk hin hx h2 hnn hkl
      go_enter Tryz.func39, Tryz.ntmps39
      go_upto_region 4 with (go_at_call 62; (with_reducible refine EN.out.mono ?_); rintro e w1 ⟨rfl, q, rfl⟩)
      go_quiet (fail)
      go_wp2
      go_returns
      exact ⟨by rw [HK.out]; rfl, by rw [World.drewN_drewN]; exact ext_drewN (Below.refl _ _) _⟩
end Go.Proofs.YthjpfplebbnbpaaGreat
namespace Go.Proofs.YthjpfplebbnbpaaGreat
open Go.ChangeShapes Go.WideShapes Go.ChangeAt Go.RowKit
def rkeys (ls : List RLv) : List ByteArray := ls.map fun p => p.1[p.2]?.getD ⟨#[]⟩
theorem rkeys_take {ls : List RLv} {i : Nat} {l : List ByteArray} {k : Nat} (h : ls[i]? = some (l, k)) : rkeys (ls.take (i + 1)) = rkeys (ls.take i) ++ [l[k]?.getD ⟨#[]⟩] := by
  unfold rkeys
  rw [take_at h]
  simp
set_option maxRecDepth 100000 in
set_option maxHeartbeats 1000000 in
theorem c_rkeys (lo pc rt : Nat) (vL vI : Value) (vs : List Value) (ls : List RLv) (w : World) (h : RCurV w lo pc rt vL vI vs ls) (hn : ls.length ≤ 64) (hin : ∀ p ∈ ls, p.2 < p.1.length) :
    Calls Tryz.prog 63 #[.pointer (some ⟨pc, 0, none⟩)] w fun e w' => ∃ a n c, e = .returned (.slice a n c) ∧ w'.ownsRow w.heap.size 9 1 (.slice a n c) n ((rkeys ls).map Value.string) ∧ Ext w w' := by
  have H := Lib.hid h
  have HIN := Lib.hid hin
  obtain ⟨a, c, a', c', rfl, rfl, c0, c1, c2, _, _, _, _⟩ := h.cells
  obtain ⟨n, hnn⟩ : ∃ n, ls.length = n := ⟨_, rfl⟩
  have HN := Lib.hid hnn
  rw [hnn] at hn c1 c2 H
  have C1 := Lib.hid c1
  have C2 := Lib.hid c2
  clear h hin hnn c0 c1 c2
  go_enter Tryz.func63, Tryz.ntmps63
  go_wp2
  go_loopw [3, 4] (fun v3 v4 wj => ∃ i : Nat, i ≤ n ∧ v4 = .int .i64 (i : Int) ∧ wj.ownsRow w.heap.size 9 1 v3 i ((rkeys (ls.take i)).map Value.string) ∧ Ext w wj) (fun _ v4 _ => n - (intOf v4).toNat)
  case atStart => exact ⟨0, Nat.zero_le _, rfl, World.ownsRow_nil _ _ _ _, Below.refl _ _⟩
  case round =>
    obtain ⟨i, hi, rfl, hown, hw⟩ := hrel
    have HW := Lib.hid hw
    have OW := Lib.hid hown
    obtain ⟨a8, c8, rfl, _⟩ := own_form hown
    have c1 := keep hw C1.out
    have c2 := keep hw C2.out
    by_cases hlt : i < n
    · have hki : (i : Int) < (n : Int) := by omega
      obtain ⟨⟨l, k⟩, hx⟩ : ∃ p, ls[i]? = some p := ⟨_, List.getElem?_eq_getElem (by have := HN.out; omega)⟩
      have hkl := HIN.out (l, k) (List.mem_of_getElem? hx)
      dsimp only at hkl
      have H2 := H.out
      rw [← HN.out] at H2
      obtain ⟨g, g', b, cb, e1, e2, k1, k2, k3, _⟩ := H2.level hx
      subst e1
      subst e2
      obtain ⟨x, b2, o2, hx2, e, h2⟩ := k2.2.at (i := k) hkl
      subst e
      have k4 : w.cell? ⟨b2, o2 + k, none⟩ = some (.string x) := by simpa [strAt] using h2
      have PS : Hid (rkeys (ls.take (i + 1)) = rkeys (ls.take i) ++ [x]) := by
        show _ = _
        rw [rkeys_take hx, hx2]
        rfl
      obtain ⟨m, hm⟩ : ∃ m, l.length = m := ⟨_, rfl⟩
      rw [hm] at k1 hkl
      have hkm : (k : Int) < (m : Int) := by omega
      have dr := ext_drew (Below.refl _ wr)
      have d1 := keep dr c1
      have d2 := keep dr c2
      have d3 := keep dr (keep hw k1)
      have d4 := keep dr (keep hw k3)
      have d5 := keep dr (keep hw k4)
      have OW7 : Hid (wr.drew.ownsRow w.heap.size 9 1 (.slice a8 i c8) i ((rkeys (ls.take i)).map Value.string)) := up_ext hown dr
      have hzz : Hid (w.heap.size ≤ wr.drew.heap.size) := hw.size
      have hkm6 : i ≤ 1000000 := by omega
      clear hx hx2 h2 k1 k2 k3 k4 hm H2 hw hown dr
      go_wp2
      go_region_law (first
        | (refine step_push_str wr.drew x w.heap.size a8 i c8 (rkeys (ls.take i)) OW7.out hkm6 hzz.out (by rfl) _ _ (by rfl) (by rfl) (by rfl) ?_; intro g6 c6 w6 p1 p2; have P1 := Lib.hid p1; have P2 := Lib.hid p2; clear p1 p2)
        | fail)
      all_goals
        go_wp2
        go_roundw
        case rel =>
          refine ⟨i + 1, by omega, by go_num, ?_, ?_⟩
          · rw [PS.out]
            exact P1.out
          · exact ext_ownB (ext_alloc (ext_drew HW.out) _) P2.out (fun g e => (OW7.out.lt g e).1)
        case measure => simp [intOf]; omega
    · obtain rfl : i = n := by omega
      have hge : ¬ (i : Int) < (i : Int) := by omega
      have ht : ls.take i = ls := List.take_of_length_le (by have := HN.out; omega)
      have OF := OW.out
      rw [ht] at OF
      have OFh := Lib.hid OF
      clear OF hown
      go_wp2
      go_returns
      exact ⟨a8, i, c8, rfl, OFh.out, HW.out⟩
set_option maxRecDepth 100000 in
theorem c_rKeys (lo pc rt : Nat) (vL vI : Value) (vs : List Value) (ls : List RLv) (w : World) (h : RCurV w lo pc rt vL vI vs ls) (hn : ls.length ≤ 64) (hin : rend ls = false → ∀ p ∈ ls, p.2 < p.1.length) :
    Calls Tryz.prog 42 #[.pointer (some ⟨pc, 0, none⟩)] w fun e w' => ∃ a n c, e = .returned (.slice a n c) ∧ w'.ownsRow w.heap.size 9 1 (.slice a n c) n ((if rend ls = true then [] else rkeys ls).map Value.string) ∧ Ext w w' := by
  have EN := c_rended lo pc rt vL vI vs ls w h hn
  have eqp := ptr_eqRC
  obtain ⟨b, hb⟩ : ∃ b, rend ls = b := ⟨_, rfl⟩
  rw [hb] at EN hin ⊢
  have EN := Lib.hid EN
  cases b with
  | true =>
    have FIN : Hid (∀ W, Ext w W → ∃ a n c, Ending.returned (.slice none 0 0) = .returned (.slice a n c) ∧ W.ownsRow w.heap.size 9 1 (.slice a n c) n ((if true = true then [] else rkeys ls).map Value.string) ∧ Ext w W) := fun W hW => ⟨none, 0, 0, rfl, by rw [if_pos rfl]; exact World.ownsRow_nil _ _ _ _, hW⟩
    clear h hn hb hin
    go_enter Tryz.func42, Tryz.ntmps42
    go_wp2_with (go_at_call 62; (with_reducible refine EN.out.mono ?_); rintro e w1 ⟨rfl, q, rfl⟩)
    go_returns
    exact FIN.out _ (ext_drewN (Below.refl _ _) _)
  | false =>
    have KY : Hid (∀ q, Calls Tryz.prog 63 #[.pointer (some ⟨pc, 0, none⟩)] (w.drewN q) fun e w' => ∃ a n c, e = .returned (.slice a n c) ∧ w'.ownsRow w.heap.size 9 1 (.slice a n c) n ((if false = true then [] else rkeys ls).map Value.string) ∧ Ext w w') := fun q => (c_rkeys lo pc rt vL vI vs ls (w.drewN q) (h.ext (ext_drewN (Below.refl _ _) q)) hn (hin rfl)).mono fun e w' ⟨a, n, c, h1, h2, h3⟩ => ⟨a, n, c, h1, by rw [if_neg (by simp)]; exact own_base h2 (ext_drewN (Below.refl _ w) q).size, ext_trans (ext_drewN (Below.refl _ _) q) h3⟩
    clear h hn hb hin
    go_enter Tryz.func42, Tryz.ntmps42
    go_wp2_with (first
      | (go_at_call 62; (with_reducible refine EN.out.mono ?_); rintro e w1 ⟨rfl, q, rfl⟩)
      | (go_at_call 63; (with_reducible refine (KY.out _).mono ?_); rintro e w2 ⟨a2, n2, c2, rfl, o2, E2⟩))
    go_returns
    exact ⟨a2, n2, c2, rfl, o2, E2⟩
set_option maxRecDepth 100000 in
theorem c_rCount (lo lo2 pc rt d : Nat) (ways : List (List ByteArray)) (vL vI : Value) (vs : List Value) (ls : List RLv) (w : World) (h : RCurV w lo pc rt vL vI vs ls) (hr : RTrie w lo2 rt d ways) (hn : ls.length ≤ 64) (hin : rend ls = false → ∀ p ∈ ls, p.2 < p.1.length) (hw : ways.length ≤ 1000000) :
    Calls Tryz.prog 44 #[.pointer (some ⟨pc, 0, none⟩)] w fun e w' => e = .returned (.int .i64 ((if rend ls = true then 0 else countP ways (rkeys ls) : Nat) : Int)) ∧ Ext w w' := by
  have EN := c_rended lo pc rt vL vI vs ls w h hn
  have eqp := ptr_eqRC
  obtain ⟨b, hb⟩ : ∃ b, rend ls = b := ⟨_, rfl⟩
  rw [hb] at EN hin ⊢
  have EN := Lib.hid EN
  cases b with
  | true =>
    rw [if_pos rfl]
    clear h hn hb hin
    go_enter Tryz.func44, Tryz.ntmps44
    go_wp2_with (go_at_call 62; (with_reducible refine EN.out.mono ?_); rintro e w1 ⟨rfl, q, rfl⟩)
    go_returns
    exact ⟨rfl, ext_drewN (Below.refl _ _) _⟩
  | false =>
    rw [if_neg (by simp)]
    have KY : Hid (∀ W, Ext w W → Calls Tryz.prog 63 #[.pointer (some ⟨pc, 0, none⟩)] W fun e w' => ∃ a n c, e = .returned (.slice a n c) ∧ StrsAt w' a n (rkeys ls) ∧ Ext W w') := fun W hW => (c_rkeys lo pc rt vL vI vs ls W (h.ext hW) hn (hin rfl)).mono fun e w' ⟨a, n, c, h1, h2, h3⟩ => ⟨a, n, c, h1, own_strs h2 (own_len h2).1, h3⟩
    obtain ⟨M, hM⟩ : ∃ M, countP ways (rkeys ls) = M := ⟨_, rfl⟩
    have CN : Hid (∀ W a n c, Ext w W → StrsAt W a n (rkeys ls) → Calls Tryz.prog 11 #[.pointer (some ⟨rt, 0, none⟩), .slice a n c] W fun e w' => e = .returned (.int .i64 (M : Nat)) ∧ Ext W w') := fun W a n c hW hs => by
      rw [← hM]
      exact c_rcount lo2 rt d ways (rkeys ls) a n c W (hr.ext hW) hs hw
    rw [hM]
    obtain ⟨a0, c0', a1, c1', rfl, rfl, c0, _, _, _, _, _, _⟩ := h.cells
    have C0 := Lib.hid c0
    clear h hn hb hin hr hw hM c0
    go_enter Tryz.func44, Tryz.ntmps44
    go_upto_region 3 with (go_at_call 62; (with_reducible refine EN.out.mono ?_); rintro e w1 ⟨rfl, q, rfl⟩)
    have d0 := keep (ext_drewN (Below.refl _ w) (q + 1)) C0.out
    go_region_with (first
      | (go_at_call 63; (with_reducible refine (KY.out _ (ext_drewN (Below.refl _ w) (q + 1))).mono ?_); rintro e w2 ⟨a2, n2, c2, rfl, s2, E2⟩; have d2 := keep E2 d0)
      | (go_at_call 11; (with_reducible refine (CN.out _ _ _ _ (ext_trans (ext_drewN (Below.refl _ w) (q + 1)) E2) s2).mono ?_); rintro e w3 ⟨rfl, E3⟩))
    all_goals
      go_wp2
      go_returns
      exact ⟨rfl, ext_trans (ext_drewN (Below.refl _ w) (q + 1)) (ext_trans E2 E3)⟩
end Go.Proofs.YthjpfplebbnbpaaGreat
namespace Go.Proofs.YthjpfplebbnbpaaGreat
open Go.ChangeShapes Go.WideShapes Go.ChangeAt Go.RowKit
/-- What a call of the document's cursor brings about. -/
def RCurP (lo pc rt : Nat) (vL vI : Value) (vs : List Value) (ls' : List RLv) (w w' : World) : Prop := ∃ vL' vI' vs', RCurV w' lo pc rt vL' vI' vs' ls' ∧ ButS (RS pc vL vI vs) w w' ∧ ∀ b, RS pc vL' vI' vs' b → RS pc vL vI vs b ∨ w.heap.size ≤ b
theorem RCurP.same {lo pc rt : Nat} {vL vI : Value} {vs : List Value} {ls : List RLv} {w w' : World} (h : RCurV w lo pc rt vL vI vs ls) (e : Ext w w') : RCurP lo pc rt vL vI vs ls w w' := ⟨vL, vI, vs, h.ext e, (ButS.refl _ w).ext e, fun _ hb => .inl hb⟩
theorem own_ne_top {w : World} {lo n pc : Nat} {e T : TypeId} {v : Value} {xs : List Value} {cs : Array Value} (h : w.ownsRow lo e 1 v n xs) (ht : w.heap[pc]? = some (.cells cs T (0, 0))) (hne : e ≠ T) : v.ownBlock = none ∨ v.ownBlock ≠ some pc := by
  rcases h.2 with ⟨e1, _⟩ | ⟨g', c', cur, e1, _, hg', _⟩
  · exact .inl (by rw [e1]; rfl)
  · right
    rw [e1]
    intro e2
    cases e2
    rw [ht] at hg'
    cases hg'
    exact hne rfl
theorem RCurV.pop {w : World} {lo pc rt m c c' : Nat} {a a' : Option Addr} {vs : List Value} {pre : List RLv} {p : RLv} (h : RCurV w lo pc rt (.slice a (m + 1) c) (.slice a' (m + 1) c') vs (pre ++ [p])) (hm : pre.length = m) :
    RCurV (((w.setCell ⟨pc, 1, none⟩ (.slice a m c)).drew.setCell ⟨pc, 2, none⟩ (.slice a' m c')).drew) lo pc rt (.slice a m c) (.slice a' m c') (vs.take m) pre ∧ ButS (RS pc (.slice a (m + 1) c) (.slice a' (m + 1) c') vs) w (((w.setCell ⟨pc, 1, none⟩ (.slice a m c)).drew.setCell ⟨pc, 2, none⟩ (.slice a' m c')).drew) ∧ ∀ b, RS pc (.slice a m c) (.slice a' m c') (vs.take m) b → RS pc (.slice a (m + 1) c) (.slice a' (m + 1) c') vs b := by
  obtain ⟨ht, hL, hR, hI, hlo⟩ := h
  have hl : (pre ++ [p]).length = m + 1 := by simp [hm]
  rw [hl] at hL hI
  have hb : ∀ (v : Value) (x y z : Nat), (Value.slice a x y).ownBlock = (Value.slice a x z).ownBlock := fun _ _ _ _ => by cases a <;> rfl
  have oL : (Value.slice a m c).ownBlock = (Value.slice a (m + 1) c).ownBlock := by cases a <;> rfl
  have oI : (Value.slice a' m c').ownBlock = (Value.slice a' (m + 1) c').ownBlock := by cases a' <;> rfl
  have pL := own_pop hL
  have pI := own_pop hI
  rw [Nat.mul_one] at pL pI
  have nL := own_ne_top pL ht (by decide)
  have nI := own_ne_top pI ht (by decide)
  have t1 : (w.setCell ⟨pc, 1, none⟩ (.slice a m c)).drew.heap[pc]? = some (.cells #[.pointer (some ⟨rt, 0, none⟩), .slice a m c, .slice a' (m + 1) c'] 39 (0, 0)) := by
    show (w.setCell ⟨pc, 1, none⟩ (.slice a m c)).heap[pc]? = _
    rw [heap_setCell_same w pc 1 _ _ _ ht]
    rfl
  have bb : ButS (fun b => b = pc) w (((w.setCell ⟨pc, 1, none⟩ (.slice a m c)).drew.setCell ⟨pc, 2, none⟩ (.slice a' m c')).drew) := (((((ButS.refl (fun b => b = pc) w).set (.inl rfl) 1 (.slice a m c)).ext (ext_drew (Below.refl _ _))).set (.inl rfl) 2 (.slice a' m c')).ext (ext_drew (Below.refl _ _)))
  have hvl : vs.length = m + 1 := by have := hL.1; omega
  refine ⟨⟨?_, ?_, ⟨?_, fun i r v hr hv => ?_⟩, ?_, hlo⟩, bb.mono (fun b _ e => .inl e), fun b hb => ?_⟩
  · show ((w.setCell ⟨pc, 1, none⟩ (.slice a m c)).drew.setCell ⟨pc, 2, none⟩ (.slice a' m c')).heap[pc]? = _
    rw [heap_setCell_same (w.setCell ⟨pc, 1, none⟩ (.slice a m c)).drew pc 2 _ _ _ t1]
    rfl
  · rw [hm]
    exact bb.own pL (fun b e1 e2 => by subst e2; rcases nL with h | h; rw [h] at e1; cases e1; exact h e1)
  · rw [List.length_take, List.length_map, hm, hvl]
    omega
  · have hi := (List.getElem?_eq_some_iff.1 hr).1
    rw [List.length_map, hm] at hi
    rw [List.getElem?_take, if_pos hi] at hv
    have ho := hR.2 i r v (by rw [List.map_append, List.getElem?_append_left (by rw [List.length_map, hm]; exact hi)]; exact hr) hv
    have nS := own_ne_top ho ht (by decide)
    exact bb.own ho (fun b e1 e2 => by subst e2; rcases nS with h | h; rw [h] at e1; cases e1; exact h e1)
  · have e : ((pre ++ [p]).map fun p => Value.int .i64 (p.2 : Nat)).take m = pre.map fun p => Value.int .i64 (p.2 : Nat) := by
      rw [List.map_append, List.take_append_of_le_length (by rw [List.length_map, hm]; exact Nat.le_refl _), List.take_of_length_le (by rw [List.length_map, hm]; exact Nat.le_refl _)]
    rw [e] at pI
    rw [hm]
    exact bb.own pI (fun b e1 e2 => by subst e2; rcases nI with h | h; rw [h] at e1; cases e1; exact h e1)
  · rcases hb with h | h | h | ⟨v, hv, h⟩
    · exact .inl h
    · exact .inr (.inl (by rw [← oL]; exact h))
    · exact .inr (.inr (.inl (by rw [← oI]; exact h)))
    · exact .inr (.inr (.inr ⟨v, List.mem_of_mem_take hv, h⟩))
set_option maxRecDepth 100000 in
theorem c_rUp (lo pc rt : Nat) (vL vI : Value) (vs : List Value) (ls : List RLv) (w : World) (h : RCurV w lo pc rt vL vI vs ls) (hn : ls.length ≤ 64) :
    Calls Tryz.prog 30 #[.pointer (some ⟨pc, 0, none⟩)] w fun e w' => e = .returned (.bool (!ls.isEmpty)) ∧ RCurP lo pc rt vL vI vs ls.dropLast w w' := by
  have H := Lib.hid h
  have eqp := ptr_eqRC
  obtain ⟨a, c, a', c', rfl, rfl, c0, c1, c2, f1, f2, hc, hc'⟩ := h.cells
  rcases snoc_cases ls with rfl | ⟨pre, p, rfl⟩
  · rw [List.length_nil] at c1 c2
    clear h hn
    go_enter Tryz.func30, Tryz.ntmps30
    go_wp2
    go_returns
    exact ⟨rfl, RCurP.same H.out (Below.refl _ _)⟩
  · obtain ⟨m, hm⟩ : ∃ m, pre.length = m := ⟨_, rfl⟩
    have hl : (pre ++ [p]).length = m + 1 := by simp [hm]
    have hne : (pre ++ [p]).isEmpty = false := by simp
    rw [hl] at c1 c2 hn hc hc' H
    have PP := Lib.hid (H.out.pop hm)
    rw [hl, hne, List.dropLast_concat]
    have rL := H.out.rowL
    have rI := H.out.rowI
    rw [hl] at rL rI
    obtain ⟨g, p1, e1, _⟩ := own_formS rL (by omega)
    obtain ⟨g', p2, e2, _⟩ := own_formS rI (by omega)
    cases e1
    cases e2
    have hcm : c ≤ 9223372036854775807 := by
      rcases rL.2 with ⟨e, h0⟩ | ⟨g, cp, cur, e, _, _, _, hm2, _⟩
      · cases e
      · cases e; exact hm2
    have hcm' : c' ≤ 9223372036854775807 := by
      rcases rI.2 with ⟨e, h0⟩ | ⟨g, cp, cur, e, _, _, _, hm2, _⟩
      · cases e
      · cases e; exact hm2
    have w3 : ¬ ((m : Int) + 1 = 0) := by omega
    have w1 : IntKind.i64.wrap (m : Int) = (m : Int) := by rw [IntKind.wrap_i64]; omega
    have l1 : (m : Int) ≤ (c : Int) := by omega
    have l2 : (m : Int) ≤ (c' : Int) := by omega
    have l0 : (0 : Int) ≤ (m : Int) := by omega
    have l3 : (m : Int) ≤ (m : Int) + 1 := by omega
    clear h hm hl hne rL rI
    go_enter Tryz.func30, Tryz.ntmps30
    go_upto_region 3 with (fail)
    go_still_tail 14, (by kernel_rfl)
    change wpList _ _ _ _ _ w.drew
    go_upto_region 4 with (fail)
    obtain ⟨W4, hW4⟩ : ∃ W4, (w.setCell ⟨pc, 1, none⟩ (.slice (some ⟨g, 0, none⟩) m c)).drew = W4 := ⟨_, rfl⟩
    have d0 : W4.cell? ⟨pc, 0, none⟩ = some (.pointer (some ⟨rt, 0, none⟩)) := by rw [← hW4]; show (w.setCell _ _).cell? _ = _; rw [World.cell?_setCell_other _ _ _ _ (by simp)]; exact c0
    have d2 : W4.cell? ⟨pc, 2, none⟩ = some (.slice (some ⟨g', 0, none⟩) (m + 1) c') := by rw [← hW4]; show (w.setCell _ _).cell? _ = _; rw [World.cell?_setCell_other _ _ _ _ (by simp)]; exact c2
    have df : W4.frozen? ⟨pc, 2, none⟩ = false := by rw [← hW4]; show (w.setCell _ _).frozen? _ = _; rw [World.frozen?_setCell]; exact f2
    rw [hW4] at PP ⊢
    clear hW4 c0 c1 c2 f1 f2
    go_still_tail 14, (by kernel_rfl)
    change wpList _ _ _ _ _ W4.drew
    go_wp2
    go_returns
    exact ⟨rfl, _, _, _, PP.out.1, PP.out.2.1, fun b hb => .inl (PP.out.2.2 b hb)⟩
end Go.Proofs.YthjpfplebbnbpaaGreat
namespace Go.Proofs.YthjpfplebbnbpaaGreat
open Go.ChangeShapes Go.WideShapes Go.ChangeAt Go.RowKit
/-- The place at the last level is written. -/
theorem RCurV.setIn {w : World} {lo pc rt m c c' g' : Nat} {a : Option Addr} {vs : List Value} {pre : List RLv} {l : List ByteArray} {k : Nat} (h : RCurV w lo pc rt (.slice a (m + 1) c) (.slice (some ⟨g', 0, none⟩) (m + 1) c') vs (pre ++ [(l, k)])) (hm : pre.length = m) (j : Nat) :
    RCurV (w.setCell ⟨g', m, none⟩ (.int .i64 (j : Nat))) lo pc rt (.slice a (m + 1) c) (.slice (some ⟨g', 0, none⟩) (m + 1) c') vs (pre ++ [(l, j)]) ∧ ButS (RS pc (.slice a (m + 1) c) (.slice (some ⟨g', 0, none⟩) (m + 1) c') vs) w (w.setCell ⟨g', m, none⟩ (.int .i64 (j : Nat))) := by
  obtain ⟨ht, hL, hR, hI, hlo⟩ := h
  have hl : (pre ++ [(l, k)]).length = m + 1 := by simp [hm]
  have hl2 : (pre ++ [(l, j)]).length = m + 1 := by simp [hm]
  rw [hl] at hL hI
  have bb : ButS (fun b => b = g') w (w.setCell ⟨g', m, none⟩ (.int .i64 (j : Nat))) := (ButS.refl (fun b => b = g') w).set (.inl rfl) _ _
  have nt := own_ne_top hI ht (by decide)
  have n1 := own_apart hL hI (by decide)
  have s1 := (hI.stored m (.int .i64 (j : Nat))).1
  have e : ((pre ++ [(l, k)]).map fun p => Value.int .i64 (p.2 : Nat)).set m (.int .i64 (j : Nat)) = (pre ++ [(l, j)]).map fun p => Value.int .i64 (p.2 : Nat) := by
    rw [List.map_append, List.map_append, List.set_append_right _ _ (by rw [List.length_map, hm]; exact Nat.le_refl _), List.length_map, hm, Nat.sub_self]
    rfl
  rw [e] at s1
  refine ⟨⟨(bb.block pc (Array.getElem?_eq_some_iff.1 ht).1 (fun e => by
    subst e
    rcases nt with h | h
    · cases h
    · exact h rfl)).trans ht, by rw [hl2]; exact bb.own hL (fun b e1 e2 => by subst e2; rcases n1 with h | h; rw [h] at e1; cases e1; exact h (e1.trans rfl)), ⟨?_, fun i r v hr hv => ?_⟩, by rw [hl2]; exact s1, hlo⟩, bb.mono (fun b _ e => .inr (.inr (.inl (by rw [e]; rfl))))⟩
  · have := hR.1
    simpa using this
  · have ho := hR.2 i r v (by simpa using hr) hv
    exact bb.own ho (fun b e1 e2 => by
      subst e2
      rcases own_apart ho hI (by decide) with h | h
      · rw [h] at e1; cases e1
      · exact h (e1.trans rfl))
set_option maxRecDepth 100000 in
theorem c_rNext_no (lo pc rt : Nat) (vL vI : Value) (vs : List Value) (ls : List RLv) (w : World) (h : RCurV w lo pc rt vL vI vs ls) (hn : ls.length ≤ 64) (hno : ls = [] ∨ rend ls = true) :
    Calls Tryz.prog 32 #[.pointer (some ⟨pc, 0, none⟩)] w fun e w' => e = .returned (.bool false) ∧ Ext w w' := by
  have EN := c_rended lo pc rt vL vI vs ls w h hn
  have eqp := ptr_eqRC
  obtain ⟨a, c, a', c', rfl, rfl, c0, c1, c2, f1, f2, hc, hc'⟩ := h.cells
  rcases snoc_cases ls with rfl | ⟨pre, p, rfl⟩
  · rw [List.length_nil] at c1 c2
    clear h hn EN hno
    go_enter Tryz.func32, Tryz.ntmps32
    go_wp2
    go_returns
    exact ⟨rfl, Below.refl _ _⟩
  · have he : rend (pre ++ [p]) = true := by
      rcases hno with h | h
      · simp at h
      · exact h
    rw [he] at EN
    have EN := Lib.hid EN
    have hl : (pre ++ [p]).length = pre.length + 1 := by simp
    rw [hl] at c1
    have w3 : ¬ ((pre.length : Int) + 1 = 0) := by omega
    clear h hn hno hl
    go_enter Tryz.func32, Tryz.ntmps32
    go_wp2_with (go_at_call 62; (with_reducible refine EN.out.mono ?_); rintro e w1 ⟨rfl, q, rfl⟩)
    go_returns
    exact ⟨rfl, ext_drewN (Below.refl _ _) _⟩
set_option maxRecDepth 100000 in
theorem c_rNext (lo pc rt : Nat) (vL vI : Value) (vs : List Value) (pre : List RLv) (l : List ByteArray) (k : Nat) (w : World) (h : RCurV w lo pc rt vL vI vs (pre ++ [(l, k)])) (hn : (pre ++ [(l, k)]).length ≤ 64) (hk : k < l.length) (hll : l.length ≤ 1000000) :
    Calls Tryz.prog 32 #[.pointer (some ⟨pc, 0, none⟩)] w fun e w' => e = .returned (.bool (!decide (k + 1 = l.length))) ∧ RCurP lo pc rt vL vI vs (pre ++ [(l, k + 1)]) w w' := by
  have EN := c_rended lo pc rt vL vI vs _ w h hn
  rw [rend_snoc, decide_eq_false (by omega)] at EN
  have EN := Lib.hid EN
  have H := Lib.hid h
  have eqp := ptr_eqRC
  obtain ⟨a, c, a', c', rfl, rfl, c0, c1, c2, f1, f2, hc, hc'⟩ := h.cells
  obtain ⟨g, g', b, cb, e1, e2, k1, k2, k3, kf⟩ := h.level (i := pre.length) (l := l) (k := k) (by simp)
  subst e1
  subst e2
  obtain ⟨m, hm⟩ : ∃ m, pre.length = m := ⟨_, rfl⟩
  have hl : (pre ++ [(l, k)]).length = m + 1 := by simp [hm]
  have hl2 : (pre ++ [(l, k + 1)]).length = m + 1 := by simp [hm]
  rw [hl] at c1 c2 hn H
  rw [hm] at k3 kf
  have SI : Hid (∀ W, Ext w W → RCurP lo pc rt (.slice (some ⟨g, 0, none⟩) (m + 1) c) (.slice (some ⟨g', 0, none⟩) (m + 1) c') vs (pre ++ [(l, k + 1)]) w (W.setCell ⟨g', m, none⟩ (.int .i64 ((k : Int) + 1))).drew) := fun W hW => by
    obtain ⟨s1, s2⟩ := (H.out.ext hW).setIn hm (k + 1)
    exact ⟨_, _, _, s1.ext (ext_drew (Below.refl _ _)), (((ButS.refl _ w).ext hW).trans s2).ext (ext_drew (Below.refl _ _)), fun b hb => .inl hb⟩
  have EN2 : Hid (∀ W, Ext w W → Calls Tryz.prog 62 #[.pointer (some ⟨pc, 0, none⟩)] (W.setCell ⟨g', m, none⟩ (.int .i64 ((k : Int) + 1))).drew fun e w' => e = .returned (.bool (decide (k + 1 = l.length))) ∧ ∃ p, w' = (W.setCell ⟨g', m, none⟩ (.int .i64 ((k : Int) + 1))).drew.drewN p) := fun W hW => by
    obtain ⟨s1, s2⟩ := (H.out.ext hW).setIn hm (k + 1)
    have := c_rended lo pc rt _ _ _ _ _ (s1.ext (ext_drew (Below.refl _ _))) (by rw [hl2]; exact hn)
    rw [rend_snoc] at this
    exact this
  rw [hl]
  obtain ⟨r, hr⟩ : ∃ r, decide (k + 1 = l.length) = r := ⟨_, rfl⟩
  rw [hr] at EN2 ⊢
  have w1 : IntKind.i64.wrap (m : Int) = (m : Int) := by rw [IntKind.wrap_i64]; omega
  have w2 : (m : Int) < (m : Int) + 1 := by omega
  have w3 : ¬ ((m : Int) + 1 = 0) := by omega
  have w4 : IntKind.i64.wrap ((k : Int) + 1) = (k : Int) + 1 := by rw [IntKind.wrap_i64]; omega
  clear h hm hl hl2 hr k1 k2
  go_enter Tryz.func32, Tryz.ntmps32
  go_upto_region 3 with (go_at_call 62; (with_reducible refine EN.out.mono ?_); rintro e w1 ⟨rfl, q, rfl⟩)
  refine wp_gen (fun W3 hW3 => ?_)
  have E3 : Ext w W3 := by rw [hW3]; exact ext_drewN (Below.refl _ w) q
  have d1 := keep E3 c2
  have d2 := keep E3 k3
  have d3 : W3.frozen? ⟨g', m, none⟩ = false := by rw [hW3]; exact kf
  have EE := Lib.hid E3
  clear E3 hW3 c0 c1 c2 f1 f2 k3 kf
  go_still_tail 14, (by kernel_rfl)
  change wpList _ _ _ _ _ W3.drew
  have SQ := Lib.hid (SI.out W3 EE.out)
  have EQ := Lib.hid (EN2.out W3 EE.out)
  clear SI EN2
  go_wp2_with (go_at_call 62; (with_reducible refine EQ.out.mono ?_); rintro e w5 ⟨rfl, p, hp⟩; have HP := Lib.hid hp; clear hp)
  go_returns
  rw [HP.out]
  obtain ⟨v1, v2, v3, u1, u2, u3⟩ := SQ.out
  exact ⟨rfl, v1, v2, v3, u1.ext (ext_drewN (Below.refl _ _) p), u2.ext (ext_drewN (Below.refl _ _) p), u3⟩
set_option maxRecDepth 100000 in
theorem c_rSeek_no (lo pc rt : Nat) (vL vI : Value) (vs : List Value) (ls : List RLv) (x : ByteArray) (w : World) (h : RCurV w lo pc rt vL vI vs ls) (hn : ls.length ≤ 64) (hno : ls = [] ∨ rend ls = true) :
    Calls Tryz.prog 34 #[.pointer (some ⟨pc, 0, none⟩), .string x] w fun e w' => e = .returned (.bool false) ∧ Ext w w' := by
  have EN := c_rended lo pc rt vL vI vs ls w h hn
  have eqp := ptr_eqRC
  obtain ⟨a, c, a', c', rfl, rfl, c0, c1, c2, f1, f2, hc, hc'⟩ := h.cells
  rcases snoc_cases ls with rfl | ⟨pre, p, rfl⟩
  · rw [List.length_nil] at c1 c2
    clear h hn EN hno
    go_enter Tryz.func34, Tryz.ntmps34
    go_wp2
    go_returns
    exact ⟨rfl, Below.refl _ _⟩
  · have he : rend (pre ++ [p]) = true := by
      rcases hno with h | h
      · simp at h
      · exact h
    rw [he] at EN
    have EN := Lib.hid EN
    have hl : (pre ++ [p]).length = pre.length + 1 := by simp
    rw [hl] at c1
    have w3 : ¬ ((pre.length : Int) + 1 = 0) := by omega
    clear h hn hno hl
    go_enter Tryz.func34, Tryz.ntmps34
    go_wp2_with (go_at_call 62; (with_reducible refine EN.out.mono ?_); rintro e w1 ⟨rfl, q, rfl⟩)
    go_returns
    exact ⟨rfl, ext_drewN (Below.refl _ _) _⟩
set_option maxRecDepth 100000 in
set_option maxHeartbeats 1000000 in
theorem c_rSeek (lo pc rt : Nat) (vL vI : Value) (vs : List Value) (pre : List RLv) (l : List ByteArray) (k : Nat) (x : ByteArray) (w : World) (h : RCurV w lo pc rt vL vI vs (pre ++ [(l, k)])) (hn : (pre ++ [(l, k)]).length ≤ 64) (hk : k < l.length) (hll : l.length ≤ 1000000) :
    Calls Tryz.prog 34 #[.pointer (some ⟨pc, 0, none⟩), .string x] w fun e w' => ∃ j, k ≤ j ∧ j ≤ l.length ∧ (∀ i y, k ≤ i → i < j → l[i]? = some y → ltB y x = true) ∧ (∀ y, l[j]? = some y → ltB y x = false) ∧ e = .returned (.bool (!decide (j = l.length))) ∧ RCurP lo pc rt vL vI vs (pre ++ [(l, j)]) w w' := by
  have EN := c_rended lo pc rt vL vI vs _ w h hn
  rw [rend_snoc, decide_eq_false (by omega)] at EN
  have EN := Lib.hid EN
  have H := Lib.hid h
  have eqp := ptr_eqRC
  obtain ⟨a, c, a', c', rfl, rfl, c0, c1, c2, f1, f2, hc, hc'⟩ := h.cells
  obtain ⟨g, g', b, cb, e1, e2, k1, k2, k3, kf⟩ := h.level (i := pre.length) (l := l) (k := k) (by simp)
  subst e1
  subst e2
  obtain ⟨m, hm⟩ : ∃ m, pre.length = m := ⟨_, rfl⟩
  have HM := Lib.hid hm
  have hl : (pre ++ [(l, k)]).length = m + 1 := by simp [hm]
  have HL2 : Hid (∀ j, (pre ++ [(l, j)]).length = m + 1) := fun j => by simp [hm]
  rw [hl] at c1 c2 hn H
  obtain ⟨n, hnn⟩ : ∃ n, l.length = n := ⟨_, rfl⟩
  have HNN := Lib.hid hnn
  rw [hnn] at hk hll
  have w1 : IntKind.i64.wrap (m : Int) = (m : Int) := by rw [IntKind.wrap_i64]; omega
  have w2 : (m : Int) < (m : Int) + 1 := by omega
  have w3 : ¬ ((m : Int) + 1 = 0) := by omega
  rw [hl, hnn]
  have LV : Hid (∀ W j, RCurV W lo pc rt (.slice (some ⟨g, 0, none⟩) (m + 1) c) (.slice (some ⟨g', 0, none⟩) (m + 1) c') vs (pre ++ [(l, j)]) → W.cell? ⟨pc, 1, none⟩ = some (.slice (some ⟨g, 0, none⟩) (m + 1) c) ∧ W.cell? ⟨pc, 2, none⟩ = some (.slice (some ⟨g', 0, none⟩) (m + 1) c') ∧ ∃ b cb, W.cell? ⟨g, m, none⟩ = some (.slice b n cb) ∧ StrsAt W b n l ∧ W.cell? ⟨g', m, none⟩ = some (.int .i64 (j : Nat)) ∧ W.frozen? ⟨g', m, none⟩ = false) := fun W j hv => by
    obtain ⟨a1, d1, a1', d1', x1, x2, _, y1, y2, _⟩ := hv.cells
    rw [HL2.out j] at x1 x2 y1 y2
    cases x1
    cases x2
    have hv2 := hv
    rw [← HL2.out j] at hv2
    obtain ⟨g9, g9', b9, cb9, z1, z2, z3, z4, z5, z6⟩ := hv2.level (i := pre.length) (l := l) (k := j) (by simp)
    cases z1
    cases z2
    rw [HM.out, HNN.out] at z3
    rw [HNN.out] at z4
    rw [HM.out] at z5 z6
    exact ⟨y1, y2, b9, cb9, z3, z4, z5, z6⟩
  have EN2 : Hid (∀ W j, RCurV W lo pc rt (.slice (some ⟨g, 0, none⟩) (m + 1) c) (.slice (some ⟨g', 0, none⟩) (m + 1) c') vs (pre ++ [(l, j)]) → Calls Tryz.prog 62 #[.pointer (some ⟨pc, 0, none⟩)] W fun e w' => e = .returned (.bool (decide (j = n))) ∧ ∃ p, w' = W.drewN p) := fun W j hv => by
    have := c_rended lo pc rt _ _ _ _ W hv (by rw [HL2.out]; exact hn)
    rwa [rend_snoc, HNN.out] at this
  clear h hm hl hnn k1 k2 k3 kf
  go_enter Tryz.func34, Tryz.ntmps34
  go_upto_region 3 with (go_at_call 62; (with_reducible refine EN.out.mono ?_); rintro e w4 ⟨rfl, q, hq⟩; have HQ1 := Lib.hid hq; clear hq)
  have E1 : Ext w w4 := by rw [HQ1.out]; exact ext_drewN (Below.refl _ w) q
  have E1h := Lib.hid E1
  have d1 := keep E1 c1
  clear c0 c1 c2 f1 f2 E1
  go_upto_block 0 with (fail)
  clear d1
  go_cut [] (fun wc => ∃ j, k ≤ j ∧ j ≤ n ∧ (∀ i y, k ≤ i → i < j → l[i]? = some y → ltB y x = true) ∧ (∀ y, l[j]? = some y → ltB y x = false) ∧ RCurV wc lo pc rt (.slice (some ⟨g, 0, none⟩) (m + 1) c) (.slice (some ⟨g', 0, none⟩) (m + 1) c') vs (pre ++ [(l, j)]) ∧ ButS (RS pc (.slice (some ⟨g, 0, none⟩) (m + 1) c) (.slice (some ⟨g', 0, none⟩) (m + 1) c') vs) w wc)
  case first =>
    go_wp2
    go_loopw [] (fun wj => ∃ j, k ≤ j ∧ j ≤ n ∧ (∀ i y, k ≤ i → i < j → l[i]? = some y → ltB y x = true) ∧ RCurV wj lo pc rt (.slice (some ⟨g, 0, none⟩) (m + 1) c) (.slice (some ⟨g', 0, none⟩) (m + 1) c') vs (pre ++ [(l, j)]) ∧ ButS (RS pc (.slice (some ⟨g, 0, none⟩) (m + 1) c) (.slice (some ⟨g', 0, none⟩) (m + 1) c') vs) w wj) (fun wj => n - (match wj.cell? ⟨g', m, none⟩ with | some v => (intOf v).toNat | none => 0))
    case atStart => exact ⟨k, Nat.le_refl _, by omega, fun i y h1 h2 => by omega, H.out.ext E1h.out, (ButS.refl _ w).ext E1h.out⟩
    case round =>
      obtain ⟨j, hkj, hjn, hq, hv, hb⟩ := hrel
      have HQ := Lib.hid hq
      have HV := Lib.hid hv
      have HB := Lib.hid hb
      obtain ⟨y1, y2, b, cb, y3, y4, y5, y6⟩ := LV.out wr j hv
      clear hq hv hb
      by_cases hlt : j < n
      · have hji : (j : Int) < (n : Int) := by omega
        have HLT := Lib.hid hlt
        obtain ⟨t, b2, o2, ht, e, h2⟩ := y4.2.at (i := j) hlt
        subst e
        have y7 : wr.cell? ⟨b2, o2 + j, none⟩ = some (.string t) := by simpa [strAt] using h2
        have HT := Lib.hid ht
        obtain ⟨p, hp⟩ : ∃ p, Op.bytesLess t.toList x.toList = p := ⟨_, rfl⟩
        have HP := Lib.hid hp
        clear ht h2 y4
        cases p with
        | true =>
          have NX : Hid (∀ i y, k ≤ i → i < j + 1 → l[i]? = some y → ltB y x = true) := fun i y h1 h2 h3 => by
            by_cases he : i = j
            · subst he
              have := HT.out.symm.trans h3
              cases this
              exact HP.out
            · exact HQ.out i y h1 (by omega) h3
          have SI : Hid (∀ q, RCurV ((wr.drewN q).setCell ⟨g', m, none⟩ (.int .i64 ((j : Int) + 1))) lo pc rt (.slice (some ⟨g, 0, none⟩) (m + 1) c) (.slice (some ⟨g', 0, none⟩) (m + 1) c') vs (pre ++ [(l, j + 1)]) ∧ ButS (RS pc (.slice (some ⟨g, 0, none⟩) (m + 1) c) (.slice (some ⟨g', 0, none⟩) (m + 1) c') vs) w ((wr.drewN q).setCell ⟨g', m, none⟩ (.int .i64 ((j : Int) + 1)))) := fun q => by
            obtain ⟨s1, s2⟩ := (HV.out.ext (ext_drewN (Below.refl _ wr) q)).setIn HM.out (j + 1)
            exact ⟨s1, (HB.out.ext (ext_drewN (Below.refl _ wr) q)).trans s2⟩
          have CE : Hid (∀ q, ((wr.drewN q).setCell ⟨g', m, none⟩ (.int .i64 ((j : Int) + 1))).cell? ⟨g', m, none⟩ = some (.int .i64 ((j : Int) + 1))) := fun q => World.cell?_setCell_same _ _ _ (keep (ext_drewN (Below.refl _ wr) q) y5)
          have wj : IntKind.i64.wrap ((j : Int) + 1) = (j : Int) + 1 := by rw [IntKind.wrap_i64]; omega
          go_wp2
          go_quiet (fail)
          go_wp2
          go_roundw
          case rel => exact ⟨j + 1, by omega, by omega, NX.out, (SI.out _).1, (SI.out _).2⟩
          case measure =>
            have h8 := HLT.out
            have h9 : n - (j + 1) < n - j := by omega
            simpa [intOf, y5, CE.out] using h9
        | false =>
          have NX : Hid (∀ y, l[j]? = some y → ltB y x = false) := fun y h3 => by
            have := HT.out.symm.trans h3
            cases this
            exact HP.out
          go_wp2
          go_quiet (fail)
          go_wp2
          go_meet
          exact ⟨j, hkj, hjn, HQ.out, NX.out, HV.out.ext (ext_drewN (Below.refl _ wr) _), HB.out.ext (ext_drewN (Below.refl _ wr) _)⟩
      · obtain rfl : j = n := by omega
        have hge : ¬ (j : Int) < (j : Int) := by omega
        have NX : Hid (∀ y, l[j]? = some y → ltB y x = false) := fun y h3 => by
          have := (List.getElem?_eq_some_iff.1 h3).1
          have := HNN.out
          omega
        clear y4
        go_wp2
        go_quiet (fail)
        go_wp2
        go_meet
        exact ⟨j, hkj, Nat.le_refl _, HQ.out, NX.out, HV.out.ext (ext_drewN (Below.refl _ wr) _), HB.out.ext (ext_drewN (Below.refl _ wr) _)⟩
  obtain ⟨j, hkj, hjn, hq, hq2, hv, hb⟩ := hcut
  have FIN : Hid (∀ W, Ext wc W → (∃ j, k ≤ j ∧ j ≤ n ∧ (∀ i y, k ≤ i → i < j → l[i]? = some y → ltB y x = true) ∧ (∀ y, l[j]? = some y → ltB y x = false) ∧ Ending.returned (.bool (!decide (j = n))) = .returned (.bool (!decide (j = n))) ∧ RCurP lo pc rt (.slice (some ⟨g, 0, none⟩) (m + 1) c) (.slice (some ⟨g', 0, none⟩) (m + 1) c') vs (pre ++ [(l, j)]) w W)) := fun W hW => ⟨j, hkj, hjn, hq, hq2, rfl, _, _, _, hv.ext hW, hb.ext hW, fun b hb => .inl hb⟩
  have EN3 := Lib.hid (EN2.out wc j hv)
  have HJ : Hid (∀ W, Ext wc W → RCurP lo pc rt (.slice (some ⟨g, 0, none⟩) (m + 1) c) (.slice (some ⟨g', 0, none⟩) (m + 1) c') vs (pre ++ [(l, j)]) w W) := fun W hW => ⟨_, _, _, hv.ext hW, hb.ext hW, fun b hb => .inl hb⟩
  have HQ := Lib.hid hq
  have HQ2 := Lib.hid hq2
  clear hq hq2 hv hb LV EN2 FIN
  obtain ⟨z, hz⟩ : ∃ z, decide (j = n) = z := ⟨_, rfl⟩
  have HZ := Lib.hid hz
  rw [hz] at EN3
  clear hz
  go_wp2_with (go_at_call 62; (with_reducible refine EN3.out.mono ?_); rintro e w5 ⟨rfl, p, rfl⟩)
  go_returns
  exact ⟨j, hkj, hjn, HQ.out, HQ2.out, by rw [HZ.out]; rfl, HJ.out _ (ext_drewN (Below.refl _ wc) p)⟩
end Go.Proofs.YthjpfplebbnbpaaGreat
namespace Go.Proofs.YthjpfplebbnbpaaGreat
open Go.ChangeShapes Go.WideShapes Go.ChangeAt Go.RowKit
/-- A cursor amid Open: its lists and its places apart. -/
structure RCur2 (w : World) (lo pc rt : Nat) (vL vI : Value) (vs : List Value) (L : List (List ByteArray)) (I : List Nat) : Prop where
  top : w.heap[pc]? = some (.cells #[.pointer (some ⟨rt, 0, none⟩), vL, vI] 39 (0, 0))
  rowL : w.ownsRow lo 46 1 vL L.length vs
  rows : RowsAt lo w vs L
  rowI : w.ownsRow lo 3 1 vI I.length (I.map fun k => .int .i64 (k : Nat))
  lo : lo ≤ pc
theorem RCurV.two {w : World} {lo pc rt : Nat} {vL vI : Value} {vs : List Value} {ls : List RLv} (h : RCurV w lo pc rt vL vI vs ls) : RCur2 w lo pc rt vL vI vs (ls.map (·.1)) (ls.map (·.2)) :=
  ⟨h.top, by rw [List.length_map]; exact h.rowL, h.rows, by rw [List.length_map, List.map_map]; exact h.rowI, h.lo⟩
theorem RCur2.one {w : World} {lo pc rt : Nat} {vL vI : Value} {vs : List Value} {ls : List RLv} (h : RCur2 w lo pc rt vL vI vs (ls.map (·.1)) (ls.map (·.2))) : RCurV w lo pc rt vL vI vs ls := by
  obtain ⟨h1, h2, h3, h4, h5⟩ := h
  rw [List.length_map] at h2 h4
  rw [List.map_map] at h4
  exact ⟨h1, h2, h3, h4, h5⟩
theorem RCur2.ext {w w' : World} {lo pc rt : Nat} {vL vI : Value} {vs : List Value} {L : List (List ByteArray)} {I : List Nat} (h : RCur2 w lo pc rt vL vI vs L I) (e : Ext w w') : RCur2 w' lo pc rt vL vI vs L I :=
  ⟨(e.block pc (Array.getElem?_eq_some_iff.1 h.top).1).trans h.top, up_ext h.rowL e, h.rows.ext e, up_ext h.rowI e, h.lo⟩
theorem RCur2.pushL {w w4 : World} {lo pc rt : Nat} {a : Option Addr} {c : Nat} {vI : Value} {vs : List Value} {L : List (List ByteArray)} {I : List Nat} {u : Value} {x : List ByteArray} {o : Obj} {g4 c4 : Nat} (h : RCur2 w lo pc rt (.slice a L.length c) vI vs L I) (hu : w.ownsRow lo 9 1 u x.length (x.map Value.string))
    (r1 : w4.ownsRow lo 46 1 (.slice (some ⟨g4, 0, none⟩) (L.length + 1) c4) (L.length + 1) (vs ++ [u])) (r2 : (w.alloc o).grownBy w4 (Value.slice a L.length c).ownBlock) (r3 : (Value.slice a L.length c).ownBlock = some g4 ∨ g4 = (w.alloc o).heap.size) :
    w4.cell? ⟨pc, 1, none⟩ = some (.slice a L.length c) ∧ w4.frozen? ⟨pc, 1, none⟩ = false ∧ RCur2 (w4.setCell ⟨pc, 1, none⟩ (.slice (some ⟨g4, 0, none⟩) (L.length + 1) c4)) lo pc rt (.slice (some ⟨g4, 0, none⟩) (L.length + 1) c4) vI (vs ++ [u]) (L ++ [x]) I ∧ ButS (fun b => b = pc ∨ (Value.slice a L.length c).ownBlock = some b) w (w4.setCell ⟨pc, 1, none⟩ (.slice (some ⟨g4, 0, none⟩) (L.length + 1) c4)) ∧ ((Value.slice a L.length c).ownBlock = some g4 ∨ w.heap.size ≤ g4) := by
  obtain ⟨ht, hL, hR, hI, hlo⟩ := h
  have hpw : pc < w.heap.size := (Array.getElem?_eq_some_iff.1 ht).1
  have bb : ButS (fun b => (Value.slice a L.length c).ownBlock = some b) w w4 := ((ButS.refl _ w).alloc o).grown r2 (fun b e => .inl e)
  have nt := own_ne_top hL ht (by decide)
  have t4 : w4.heap[pc]? = some (.cells #[.pointer (some ⟨rt, 0, none⟩), .slice a L.length c, vI] 39 (0, 0)) := (bb.block pc hpw (fun e => by
    rcases nt with h | h
    · rw [h] at e; cases e
    · exact h e)).trans ht
  have n4 : g4 ≠ pc := fun e => by
    rcases r3 with h | h
    · rcases nt with h2 | h2
      · rw [h] at h2; cases h2
      · exact h2 (by rw [h, e])
    · have : (w.alloc o).heap.size = w.heap.size + 1 := by simp
      omega
  have own4 : ∀ {e : TypeId} {v : Value} {n : Nat} {xs : List Value}, e ≠ 46 → e ≠ 39 → w.ownsRow lo e 1 v n xs → (w4.setCell ⟨pc, 1, none⟩ (.slice (some ⟨g4, 0, none⟩) (L.length + 1) c4)).ownsRow lo e 1 v n xs := fun {e v n xs} h1 h2 ho => by
    have k1 := bb.own ho (fun b e1 e2 => by
      rcases own_apart ho hL h1 with h | h
      · rw [h] at e1; cases e1
      · exact h (e1.trans e2.symm))
    refine own_set_other k1 ?_ _
    exact own_ne_top ho ht h2
  refine ⟨by simp [World.cell?, t4], by simp [World.frozen?, t4], ⟨?_, ?_, ?_, own4 (by decide) (by decide) hI, hlo⟩, (bb.mono fun b _ e => .inr e).set (.inl (.inl rfl)) _ _, ?_⟩
  · rw [heap_setCell_same w4 pc 1 _ _ _ t4]
    rfl
  · rw [List.length_append, List.length_singleton]
    exact own_set_other (a := ⟨pc, 1, none⟩) r1 (.inr (fun e => n4 (Option.some.inj e))) _
  · exact rows_snoc ⟨hR.1, fun i r v hr hv => own4 (by decide) (by decide) (hR.2 i r v hr hv)⟩ (own4 (by decide) (by decide) hu)
  · rcases r3 with h | h
    · exact .inl h
    · right
      have : (w.alloc o).heap.size = w.heap.size + 1 := by simp
      omega
theorem RCur2.pushI {w w4 : World} {lo pc rt : Nat} {a : Option Addr} {c : Nat} {vL : Value} {vs : List Value} {L : List (List ByteArray)} {I : List Nat} {k : Nat} {o : Obj} {g4 c4 : Nat} (h : RCur2 w lo pc rt vL (.slice a I.length c) vs L I)
    (r1 : w4.ownsRow lo 3 1 (.slice (some ⟨g4, 0, none⟩) (I.length + 1) c4) (I.length + 1) ((I.map fun k => Value.int .i64 (k : Nat)) ++ [.int .i64 (k : Nat)])) (r2 : (w.alloc o).grownBy w4 (Value.slice a I.length c).ownBlock) (r3 : (Value.slice a I.length c).ownBlock = some g4 ∨ g4 = (w.alloc o).heap.size) :
    w4.cell? ⟨pc, 2, none⟩ = some (.slice a I.length c) ∧ w4.frozen? ⟨pc, 2, none⟩ = false ∧ RCur2 (w4.setCell ⟨pc, 2, none⟩ (.slice (some ⟨g4, 0, none⟩) (I.length + 1) c4)) lo pc rt vL (.slice (some ⟨g4, 0, none⟩) (I.length + 1) c4) vs L (I ++ [k]) ∧ ButS (fun b => b = pc ∨ (Value.slice a I.length c).ownBlock = some b) w (w4.setCell ⟨pc, 2, none⟩ (.slice (some ⟨g4, 0, none⟩) (I.length + 1) c4)) ∧ ((Value.slice a I.length c).ownBlock = some g4 ∨ w.heap.size ≤ g4) := by
  obtain ⟨ht, hL, hR, hI, hlo⟩ := h
  have hpw : pc < w.heap.size := (Array.getElem?_eq_some_iff.1 ht).1
  have bb : ButS (fun b => (Value.slice a I.length c).ownBlock = some b) w w4 := ((ButS.refl _ w).alloc o).grown r2 (fun b e => .inl e)
  have nt := own_ne_top hI ht (by decide)
  have t4 : w4.heap[pc]? = some (.cells #[.pointer (some ⟨rt, 0, none⟩), vL, .slice a I.length c] 39 (0, 0)) := (bb.block pc hpw (fun e => by
    rcases nt with h | h
    · rw [h] at e; cases e
    · exact h e)).trans ht
  have n4 : g4 ≠ pc := fun e => by
    rcases r3 with h | h
    · rcases nt with h2 | h2
      · rw [h] at h2; cases h2
      · exact h2 (by rw [h, e])
    · have : (w.alloc o).heap.size = w.heap.size + 1 := by simp
      omega
  have own4 : ∀ {e : TypeId} {v : Value} {n : Nat} {xs : List Value}, e ≠ 3 → e ≠ 39 → w.ownsRow lo e 1 v n xs → (w4.setCell ⟨pc, 2, none⟩ (.slice (some ⟨g4, 0, none⟩) (I.length + 1) c4)).ownsRow lo e 1 v n xs := fun {e v n xs} h1 h2 ho => by
    have k1 := bb.own ho (fun b e1 e2 => by
      rcases own_apart ho hI h1 with h | h
      · rw [h] at e1; cases e1
      · exact h (e1.trans e2.symm))
    refine own_set_other k1 ?_ _
    exact own_ne_top ho ht h2
  refine ⟨by simp [World.cell?, t4], by simp [World.frozen?, t4], ⟨?_, own4 (by decide) (by decide) hL, ⟨hR.1, fun i r v hr hv => own4 (by decide) (by decide) (hR.2 i r v hr hv)⟩, ?_, hlo⟩, (bb.mono fun b _ e => .inr e).set (.inl (.inl rfl)) _ _, ?_⟩
  · rw [heap_setCell_same w4 pc 2 _ _ _ t4]
    rfl
  · rw [List.length_append, List.length_singleton, List.map_append]
    exact own_set_other (a := ⟨pc, 2, none⟩) r1 (.inr (fun e => n4 (Option.some.inj e))) _
  · rcases r3 with h | h
    · exact .inl h
    · right
      have : (w.alloc o).heap.size = w.heap.size + 1 := by simp
      omega
set_option maxRecDepth 100000 in
set_option maxHeartbeats 1000000 in
theorem c_rOpen_no (lo lo2 pc rt d : Nat) (ways : List (List ByteArray)) (vL vI : Value) (vs : List Value) (ls : List RLv) (w : World) (h : RCurV w lo pc rt vL vI vs ls) (hr : RTrie w lo2 rt d ways) (hn : ls.length ≤ 64) (hno : rend ls = true ∨ ls.length = d ∨ ways.length = 0) :
    Calls Tryz.prog 28 #[.pointer (some ⟨pc, 0, none⟩)] w fun e w' => e = .returned (.bool false) ∧ Ext w w' := by
  have EN : ∀ q, Calls Tryz.prog 62 #[.pointer (some ⟨pc, 0, none⟩)] (w.drewN q) fun e w' => e = .returned (.bool (rend ls)) ∧ ∃ m, w' = (w.drewN q).drewN m := fun q => c_rended lo pc rt vL vI vs ls _ (h.ext (ext_drewN (Below.refl _ _) q)) hn
  have eqp := ptr_eqRC
  obtain ⟨a, c, a', c', rfl, rfl, c0, c1, c2, f1, f2, hc, hc'⟩ := h.cells
  have z0 := hr.c0
  obtain ⟨aw, cw, vw, z1, _, _⟩ := hr.row
  obtain ⟨b, hb⟩ : ∃ b, rend ls = b := ⟨_, rfl⟩
  rw [hb] at EN hno
  have EN := Lib.hid EN
  obtain ⟨n, hnn⟩ : ∃ n, ls.length = n := ⟨_, rfl⟩
  rw [hnn] at c1 c2 hno
  obtain ⟨N, hN⟩ : ∃ N, ways.length = N := ⟨_, rfl⟩
  rw [hN] at z1 hno
  clear h hr hn hb hnn hN f1 f2 hc hc'
  cases b with
  | true =>
    clear hno
    go_enter Tryz.func28, Tryz.ntmps28
    go_wp2
    go_quiet (first | (go_at_call 62; exact Calls.quiet_of (EN.out _)) | fail)
    go_wp2
    go_returns
    exact ⟨rfl, ext_drewN (Below.refl _ _) _⟩
  | false =>
    by_cases h1 : n = d
    · have hq : (n == d) = true := by simp [h1]
      have hq2 : ((n : Int) == (d : Int)) = true := by simp [h1]
      clear hno h1
      go_enter Tryz.func28, Tryz.ntmps28
      go_wp2
      go_quiet (first | (go_at_call 62; exact Calls.quiet_of (EN.out _)) | fail)
      go_wp2
      go_returns
      exact ⟨rfl, ext_drewN (Below.refl _ _) _⟩
    · have hN0 : N = 0 := by
        rcases hno with h | h | h
        · cases h
        · exact absurd h h1
        · exact h
      subst hN0
      have hq : (n == d) = false := by simp [h1]
      have hq2 : ((n : Int) == (d : Int)) = false := beq_eq_false_iff_ne.2 (by omega)
      clear hno h1
      go_enter Tryz.func28, Tryz.ntmps28
      go_wp2
      go_quiet (first | (go_at_call 62; exact Calls.quiet_of (EN.out _)) | fail)
      go_wp2
      go_returns
      exact ⟨rfl, ext_drewN (Below.refl _ _) _⟩
theorem info_intT : (Tryz.prog.info? 3).map (fun i => (i.zero, i.size, i.bytes)) = some (some (.int .i64 0), 1, 8) := by kernel_rfl
set_option maxRecDepth 100000 in
set_option maxHeartbeats 2000000 in
theorem c_rOpen (lo lo2 pc rt d : Nat) (ways : List (List ByteArray)) (vL vI : Value) (vs : List Value) (ls : List RLv) (w : World) (h : RCurV w lo pc rt vL vI vs ls) (hr : RTrie w lo2 rt d ways) (hl : ∀ r ∈ ways, r.length = d) (hn : ls.length ≤ 64) (he : rend ls = false) (hd : ls.length ≠ d) (hN : ways.length ≠ 0) (hN2 : ways.length ≤ 1000000) (hin : ∀ p ∈ ls, p.2 < p.1.length) (hlo : lo ≤ w.heap.size) :
    Calls Tryz.prog 28 #[.pointer (some ⟨pc, 0, none⟩)] w fun e w' => e = .returned (.bool true) ∧ RCurP lo pc rt vL vI vs (ls ++ [(folX d ways (rkeys ls), 0)]) w w' := by
  have EN : ∀ q, Calls Tryz.prog 62 #[.pointer (some ⟨pc, 0, none⟩)] (w.drewN q) fun e w' => e = .returned (.bool false) ∧ ∃ m, w' = (w.drewN q).drewN m := fun q => by
    rw [← he]
    exact c_rended lo pc rt vL vI vs ls _ (h.ext (ext_drewN (Below.refl _ _) q)) hn
  have EN := Lib.hid EN
  have eqp := ptr_eqRC
  have HLO := Lib.hid hlo
  have KY : Hid (∀ W, Ext w W → Calls Tryz.prog 63 #[.pointer (some ⟨pc, 0, none⟩)] W fun e w' => ∃ a n c, e = .returned (.slice a n c) ∧ StrsAt w' a n (rkeys ls) ∧ Ext W w') := fun W hW => (c_rkeys lo pc rt vL vI vs ls W (h.ext hW) hn hin).mono fun e w' ⟨a, n, c, h1, h2, h3⟩ => ⟨a, n, c, h1, own_strs h2 (own_len h2).1, h3⟩
  obtain ⟨xs, hxs⟩ : ∃ xs, folX d ways (rkeys ls) = xs := ⟨_, rfl⟩
  have FO : Hid (∀ W a n c, Ext w W → StrsAt W a n (rkeys ls) → Calls Tryz.prog 13 #[.pointer (some ⟨rt, 0, none⟩), .slice a n c] W fun e w' => ∃ a9 n9 c9, e = .returned (.slice a9 n9 c9) ∧ w'.ownsRow w.heap.size 9 1 (.slice a9 n9 c9) n9 (xs.map Value.string) ∧ Ext W w') := fun W a n c hW hs => by
    rw [← hxs]
    exact (c_rfollow lo2 rt d ways (rkeys ls) a n c W (hr.ext hW) hl hs hN2).mono fun e w' ⟨a9, n9, c9, h1, h2, h3, _⟩ => ⟨a9, n9, c9, h1, own_base h2 hW.size, h3⟩
  rw [hxs]
  have H := Lib.hid h
  obtain ⟨a, c, a', c', rfl, rfl, c0, c1, c2, f1, f2, hc, hc'⟩ := h.cells
  have z0 := hr.c0
  obtain ⟨aw, cw, vw, z1, _, _⟩ := hr.row
  obtain ⟨n, hnn⟩ : ∃ n, ls.length = n := ⟨_, rfl⟩
  have HNN := Lib.hid hnn
  have TW := Lib.hid h.two
  rw [hnn] at c1 c2 hd hn
  obtain ⟨N, hNN⟩ : ∃ N, ways.length = N := ⟨_, rfl⟩
  rw [hNN] at z1 hN
  have hq : (n == d) = false := by simp [hd]
  have hq2 : ((n : Int) == (d : Int)) = false := beq_eq_false_iff_ne.2 (by omega)
  have hz1 : (N == 0) = false := by simp [hN]
  have hz2 : ((N : Int) == 0) = false := beq_eq_false_iff_ne.2 (by omega)
  have hz3 : ¬ ((N : Int) = 0) := by omega
  rw [hnn] at TW H ⊢
  have C0 := Lib.hid c0
  clear h hr hl he hd hN hN2 hin hlo hxs hnn hNN f1 f2 hc hc'
  go_enter Tryz.func28, Tryz.ntmps28
  go_wp2
  go_quiet (first | (go_at_call 62; exact Calls.quiet_of (EN.out _)) | fail)
  go_upto_region 3 with (fail)
  refine wp_gen (fun W3 hW3 => ?_)
  have E3 : Ext w W3 := by rw [hW3]; exact ext_drewN (Below.refl _ _) _
  have E3h := Lib.hid E3
  clear hW3
  have k0 := keep (ext_drew E3) c0
  clear c0 c1 c2 z0 z1 E3 EN
  go_cut [3] (fun v3 wc => Ext w wc ∧ ∃ a9 n9 c9, v3 = .slice a9 n9 c9 ∧ wc.ownsRow w.heap.size 9 1 (.slice a9 n9 c9) n9 (xs.map Value.string))
  case first =>
    go_region_with (first
      | (go_at_call 63; (with_reducible refine (KY.out _ (ext_drew E3h.out)).mono ?_); rintro e w2 ⟨a2, n2, c2, rfl, s2, E2⟩; have d2 := keep E2 k0)
      | (go_at_call 13; (with_reducible refine (FO.out _ _ _ _ (ext_trans (ext_drew E3h.out) E2) s2).mono ?_); rintro e w3 ⟨a9, n9, c9, rfl, o9, E9⟩))
    all_goals
      go_wp2
      go_meet
      exact ⟨ext_trans (ext_drew E3h.out) (ext_trans E2 E9), a9, n9, c9, rfl, o9⟩
  obtain ⟨ec, a9, n9, c9, rfl, o9⟩ := hcut
  have EC := Lib.hid ec
  obtain rfl : n9 = xs.length := by
    have := o9.1
    rw [List.length_map] at this
    omega
  have O9 := Lib.hid (own_base o9 HLO.out)
  have O9L : Hid (∀ b, (Value.slice a9 xs.length c9).ownBlock = some b → w.heap.size ≤ b) := fun b e => (o9.lt b e).1
  have T3 := Lib.hid (TW.out.ext ec)
  obtain ⟨i0, hi0, hz01, hz02, hz03⟩ := info_parts info_row
  obtain ⟨j0, hj0, jz01, jz02, jz03⟩ := info_parts info_intT
  have B1 : Hid (n + 1 ≤ maxLen) := by show _ ≤ _; unfold maxLen; omega
  have B2 : Hid ((n + 1) * 24 ≤ 140737488355328) := by show _ ≤ _; omega
  have B3 : Hid ((n + 1) * 8 ≤ 140737488355328) := by show _ ≤ _; omega
  have HBW : Hid (lo ≤ wc.heap.size) := Nat.le_trans HLO.out ec.size
  have ROWL : Hid (wc.ownsRow lo 46 1 (.slice a n c) n vs) := by
    have := T3.out.rowL
    rwa [List.length_map, HNN.out] at this
  have k1 := keep ec C0.out
  have t1 : wc.cell? ⟨pc, 1, none⟩ = some (.slice a n c) := by
    have := T3.out.top
    simp [World.cell?, this]
  have TOP : Hid (∀ W, Ext wc W → ∀ g4 c4 w4, w4.ownsRow lo 46 1 (.slice (some ⟨g4, 0, none⟩) (n + 1) c4) (n + 1) (vs ++ [.slice a9 xs.length c9]) → ∀ o, (W.alloc o).grownBy w4 (Value.slice a n c).ownBlock → ((Value.slice a n c).ownBlock = some g4 ∨ g4 = (W.alloc o).heap.size) → w4.cell? ⟨pc, 1, none⟩ = some (.slice a n c) ∧ w4.frozen? ⟨pc, 1, none⟩ = false ∧ RCur2 (w4.setCell ⟨pc, 1, none⟩ (.slice (some ⟨g4, 0, none⟩) (n + 1) c4)) lo pc rt (.slice (some ⟨g4, 0, none⟩) (n + 1) c4) (.slice a' n c') (vs ++ [.slice a9 xs.length c9]) (ls.map (·.1) ++ [xs]) (ls.map (·.2)) ∧ ButS (fun b => b = pc ∨ (Value.slice a n c).ownBlock = some b) W (w4.setCell ⟨pc, 1, none⟩ (.slice (some ⟨g4, 0, none⟩) (n + 1) c4)) ∧ ((Value.slice a n c).ownBlock = some g4 ∨ W.heap.size ≤ g4)) := fun W hW g4 c4 w4 r1 o r2 r3 => by
    have hL : (ls.map (·.1)).length = n := by rw [List.length_map, HNN.out]
    have h5 := T3.out.ext hW
    rw [← hL] at r1 r2 r3 h5 ⊢
    have h6 : RCur2 W lo pc rt (.slice a (ls.map (·.1)).length c) (.slice a' n c') vs (ls.map (·.1)) (ls.map (·.2)) := by rw [hL] at h5 ⊢; exact h5
    have := h6.pushL (x := xs) (up_ext O9.out hW) r1 r2 r3
    rw [hL] at this ⊢
    exact this
  clear o9 ec E3h KY FO
  go_upto_region 5 with (at_builtin; go_loud (refine wpList_append_one _ rfl _ _ 22 rfl lo 46 i0 (.slice none 0 0) 1 24 Tryz.underlying22 hi0 hz01 hz02 hz03 rfl (by decide) a n c vs rfl (ROWL.out.alloc _) ⟨wc.heap.size, 0, none⟩ 1 [.slice a9 xs.length c9] rfl rfl (news1 _ _ _) (fun u hu => by cases List.mem_singleton.1 hu; rfl) B1.out B2.out (size_alloc_le HBW.out) ?_; intro g7 p7 w7 r1 r2 r3 r4; obtain ⟨q1, q2, q3, q4, q5⟩ := TOP.out wc (Below.refl _ _) g7 p7 w7 r1 _ r2 r3))
  have R5 := Lib.hid q3
  have B5 := Lib.hid q4
  have N5 := Lib.hid q5
  clear q1 q2 q3 q4 q5 r1 r2 r3 r4 t1 k1
  refine wp_gen (fun W5 hW5 => ?_)
  rw [← hW5] at R5 B5
  clear hW5
  have ROWI : Hid (W5.ownsRow lo 3 1 (.slice a' n c') n ((ls.map (·.2)).map fun k => .int .i64 (k : Nat))) := by
    have := R5.out.rowI
    rwa [List.length_map, HNN.out] at this
  have t5 : W5.cell? ⟨pc, 2, none⟩ = some (.slice a' n c') := by
    have := R5.out.top
    simp [World.cell?, this]
  have HBW5 : Hid (lo ≤ W5.heap.size) := Nat.le_trans HBW.out B5.out.size
  have TO2 : Hid (∀ g4 c4 w4, w4.ownsRow lo 3 1 (.slice (some ⟨g4, 0, none⟩) (n + 1) c4) (n + 1) (((ls.map (·.2)).map fun k => Value.int .i64 (k : Nat)) ++ [.int .i64 0]) → ∀ o, (W5.alloc o).grownBy w4 (Value.slice a' n c').ownBlock → ((Value.slice a' n c').ownBlock = some g4 ∨ g4 = (W5.alloc o).heap.size) → w4.cell? ⟨pc, 2, none⟩ = some (.slice a' n c') ∧ w4.frozen? ⟨pc, 2, none⟩ = false ∧ RCurP lo pc rt (.slice a n c) (.slice a' n c') vs (ls ++ [(xs, 0)]) w (w4.setCell ⟨pc, 2, none⟩ (.slice (some ⟨g4, 0, none⟩) (n + 1) c4))) := fun g4 c4 w4 r1 o r2 r3 => by
    have hI : (ls.map (·.2)).length = n := by rw [List.length_map, HNN.out]
    have h5 := R5.out
    rw [← hI] at r1 r2 r3
    have h6 : RCur2 W5 lo pc rt (.slice (some ⟨g7, 0, none⟩) (n + 1) p7) (.slice a' (ls.map (·.2)).length c') (vs ++ [.slice a9 xs.length c9]) (ls.map (·.1) ++ [xs]) (ls.map (·.2)) := by rw [hI]; exact h5
    obtain ⟨s1, s2, s3, s4, s5⟩ := h6.pushI (k := 0) r1 r2 r3
    rw [hI] at s1 s3 s4 s5
    have s6 : RCur2 (w4.setCell ⟨pc, 2, none⟩ (.slice (some ⟨g4, 0, none⟩) (n + 1) c4)) lo pc rt (.slice (some ⟨g7, 0, none⟩) (n + 1) p7) (.slice (some ⟨g4, 0, none⟩) (n + 1) c4) (vs ++ [.slice a9 xs.length c9]) ((ls ++ [((xs, 0) : RLv)]).map (·.1)) ((ls ++ [((xs, 0) : RLv)]).map (·.2)) := by simpa using s3
    refine ⟨s1, s2, _, _, _, s6.one, (((ButS.refl (RS pc (.slice a n c) (.slice a' n c') vs) w).ext EC.out).trans (B5.out.mono fun b _ e => ?_)).trans (s4.mono fun b _ e => ?_), fun b hb => ?_⟩
    · rcases e with e | e
      · exact .inl e
      · exact .inr (.inl e)
    · rcases e with e | e
      · exact .inl e
      · exact .inr (.inr (.inl e))
    · have z1 := EC.out.size
      have z2 := B5.out.size
      rcases hb with e | e | e | ⟨v, hv, e⟩
      · exact .inl (.inl e)
      · have e : g7 = b := Option.some.inj e
        subst e
        rcases N5.out with h | h
        · exact .inl (.inr (.inl h))
        · exact .inr (by omega)
      · have e : g4 = b := Option.some.inj e
        subst e
        rcases s5 with h | h
        · exact .inl (.inr (.inr (.inl h)))
        · exact .inr (by omega)
      · rcases List.mem_append.1 hv with hv | hv
        · exact .inl (.inr (.inr (.inr ⟨v, hv, e⟩)))
        · rw [List.mem_singleton] at hv
          subst hv
          exact .inr (O9L.out b e)
  go_wp2_with (at_builtin; go_loud (refine wpList_append_one _ rfl _ _ 23 rfl lo 3 j0 (.int .i64 0) 1 8 Tryz.underlying23 hj0 jz01 jz02 jz03 rfl (by decide) a' n c' ((ls.map (·.2)).map fun k => .int .i64 (k : Nat)) rfl (ROWI.out.alloc _) ⟨W5.heap.size, 0, none⟩ 1 [.int .i64 0] rfl rfl (news1 _ _ _) (fun u hu => by cases List.mem_singleton.1 hu; rfl) B1.out B3.out (size_alloc_le HBW5.out) ?_; intro g8 p8 w8 s1 s2 s3 s4; obtain ⟨y1, y2, y3⟩ := TO2.out g8 p8 w8 s1 _ s2 s3))
  go_returns
  exact ⟨rfl, y3⟩
end Go.Proofs.YthjpfplebbnbpaaGreat
namespace Go.Proofs.YthjpfplebbnbpaaGreat
open Go.ChangeShapes Go.WideShapes Go.ChangeAt Go.RowKit
/-- The ways that the level behind these spans ranges over. -/
def bnd (ways : List (List ByteArray)) (pre : List (Nat × Nat)) : Nat × Nat := match pre.getLast? with
  | some s => (st ways (pre.length - 1) s.1, st ways (pre.length - 1) (s.1 + 1))
  | none => (0, ways.length)
theorem bnd_nil (ways : List (List ByteArray)) : bnd ways [] = (0, ways.length) := rfl
theorem bnd_snoc (ways : List (List ByteArray)) (pre : List (Nat × Nat)) (f t : Nat) : bnd ways (pre ++ [(f, t)]) = (st ways pre.length f, st ways pre.length (f + 1)) := by simp [bnd]
def lvOf (ways : List (List ByteArray)) (pre : List (Nat × Nat)) (f : Nat) : RLv := (segKeys ways pre.length (bnd ways pre).1 (bnd ways pre).2, f - wid ways pre.length (bnd ways pre).1)
def lsOf (ways : List (List ByteArray)) (sp : List (Nat × Nat)) : List RLv := (List.range sp.length).map fun i => lvOf ways (sp.take i) (sp[i]?.getD (0, 0)).1
theorem lsOf_len (ways : List (List ByteArray)) (sp : List (Nat × Nat)) : (lsOf ways sp).length = sp.length := by simp [lsOf]
theorem lsOf_snoc (ways : List (List ByteArray)) (pre : List (Nat × Nat)) (f t : Nat) : lsOf ways (pre ++ [(f, t)]) = lsOf ways pre ++ [lvOf ways pre f] := by
  unfold lsOf
  rw [List.length_append, List.length_singleton, List.range_succ, List.map_append]
  congr 1
  · apply List.map_congr_left
    intro i hi
    have hi := List.mem_range.1 hi
    rw [List.take_append_of_le_length (by omega), List.getElem?_append_left hi]
  · simp
theorem CurSt.bnd {d : Nat} {ways : List (List ByteArray)} {sp : List (Nat × Nat)} {A B : Nat} (h : CurSt d ways sp A B) : ∀ pre s, sp = pre ++ [s] → bnd ways pre = (A, B) := by
  cases h with
  | one f0 hd hN hf =>
    intro pre s e
    have e2 : ([] : List (Nat × Nat)) ++ [(f0, wid ways 0 ways.length)] = pre ++ [s] := e
    rw [← (snoc_inj e2).1]
    rfl
  | more pre0 f0 t0 A0 B0 f2 h0 hlt hd h1 h2 =>
    intro pre s e
    rw [← (snoc_inj e).1, bnd_snoc]
structure LvF (d : Nat) (ways : List (List ByteArray)) (pre : List (Nat × Nat)) (f t : Nat) : Prop where
  ok : ∃ A B, CurSt d ways (pre ++ [(f, t)]) A B ∧ CurFacts d ways pre f t A B ∧ lvOf ways pre f = (segKeys ways pre.length A B, f - wid ways pre.length A) ∧ (segKeys ways pre.length A B).length = t - wid ways pre.length A ∧ wid ways pre.length A ≤ f
theorem CurOk.lv {d : Nat} {ways : List (List ByteArray)} (hw : Ways d ways) {pre : List (Nat × Nat)} {f t : Nat} (h : CurOk d ways (pre ++ [(f, t)])) : LvF d ways pre f t := by
  obtain ⟨A, B, hs⟩ := h.st (by simp)
  have F := hs.facts hw pre f t rfl
  refine ⟨A, B, hs, F, ?_, ?_, F.ge⟩
  · unfold lvOf
    rw [hs.bnd pre (f, t) rfl]
  · rw [segKeys_len F.seg, F.top]
theorem CurOk.init {d : Nat} {ways : List (List ByteArray)} {pre : List (Nat × Nat)} {s : Nat × Nat} (h : CurOk d ways (pre ++ [s])) : CurOk d ways pre ∧ endB pre = false := by
  obtain ⟨A, B, hs⟩ := h.st (by simp)
  rcases hs.pop pre s rfl with rfl | ⟨pre0, f, t, A0, B0, rfl, hlt, h0, _⟩
  · exact ⟨.inl rfl, rfl⟩
  · exact ⟨.inr ⟨_, _, h0⟩, by rw [endB_snoc, decide_eq_false (by omega)]⟩
theorem rend_lsOf {d : Nat} {ways : List (List ByteArray)} (hw : Ways d ways) {sp : List (Nat × Nat)} (h : CurOk d ways sp) : rend (lsOf ways sp) = endB sp := by
  rcases snoc_cases sp with rfl | ⟨pre, ⟨f, t⟩, rfl⟩
  · rfl
  · obtain ⟨A, B, hs, F, e, hl, hge⟩ := (h.lv hw).ok
    rw [lsOf_snoc, e, rend_snoc, hl, endB_snoc, decide_eq_decide]
    have := F.le
    omega
theorem lsOf_in {d : Nat} {ways : List (List ByteArray)} (hw : Ways d ways) : ∀ (n : Nat) (sp : List (Nat × Nat)), sp.length = n → CurOk d ways sp → (∀ p ∈ lsOf ways sp, p.2 ≤ p.1.length) ∧ (endB sp = false → ∀ p ∈ lsOf ways sp, p.2 < p.1.length) := by
  intro n
  induction n with
  | zero =>
    intro sp hn _
    obtain rfl : sp = [] := List.eq_nil_of_length_eq_zero hn
    exact ⟨fun p hp => by simp [lsOf] at hp, fun _ p hp => by simp [lsOf] at hp⟩
  | succ n ih =>
    intro sp hn h
    rcases snoc_cases sp with rfl | ⟨pre, ⟨f, t⟩, rfl⟩
    · simp at hn
    · obtain ⟨A, B, hs, F, e, hl, hge⟩ := (h.lv hw).ok
      obtain ⟨i1, i2⟩ := ih pre (by simpa using hn) h.init.1
      have i3 := i2 h.init.2
      have hle := F.le
      rw [lsOf_snoc, e, endB_snoc]
      refine ⟨fun p hp => ?_, fun he p hp => ?_⟩
      · rcases List.mem_append.1 hp with hp | hp
        · exact i1 p hp
        · rw [List.mem_singleton] at hp
          subst hp
          dsimp only
          omega
      · have : f ≠ t := by simpa using he
        rcases List.mem_append.1 hp with hp | hp
        · exact i3 p hp
        · rw [List.mem_singleton] at hp
          subst hp
          dsimp only
          omega
theorem rkeys_snoc (ls : List RLv) (p : RLv) : rkeys (ls ++ [p]) = rkeys ls ++ [p.1[p.2]?.getD ⟨#[]⟩] := by simp [rkeys]
theorem lv_key {d : Nat} {ways : List (List ByteArray)} {pre : List (Nat × Nat)} {f t A B : Nat} (F : CurFacts d ways pre f t A B) (hft : f < t) : (segKeys ways pre.length A B)[f - wid ways pre.length A]?.getD ⟨#[]⟩ = keyAt ways pre.length (st ways pre.length f) := by
  have h1 := F.top
  have h2 := F.ge
  rw [segKeys_at F.seg (by omega), show wid ways pre.length A + (f - wid ways pre.length A) = f by omega]
  rfl
theorem rkeys_lsOf {d : Nat} {ways : List (List ByteArray)} (hw : Ways d ways) : ∀ (n : Nat) (sp : List (Nat × Nat)), sp.length = n → CurOk d ways sp → endB sp = false → rkeys (lsOf ways sp) = keysOf ways sp := by
  intro n
  induction n with
  | zero =>
    intro sp hn _ _
    obtain rfl : sp = [] := List.eq_nil_of_length_eq_zero hn
    rfl
  | succ n ih =>
    intro sp hn h he
    rcases snoc_cases sp with rfl | ⟨pre, ⟨f, t⟩, rfl⟩
    · simp at hn
    · obtain ⟨A, B, hs, F, e, hl, hge⟩ := (h.lv hw).ok
      rw [endB_snoc] at he
      have hft : f ≠ t := by simpa using he
      have hle := F.le
      rw [lsOf_snoc, rkeys_snoc, ih pre (by simpa using hn) h.init.1 h.init.2, keysOf_snoc, e]
      dsimp only
      rw [lv_key F (by omega)]
/-- What follows the cursor's constants is what Open lays. -/
theorem folX_open {d : Nat} {ways : List (List ByteArray)} (hw : Ways d ways) {sp : List (Nat × Nat)} (h : CurOk d ways sp) (hm : mayOpen d ways sp = true) : lsOf ways (sp ++ [openS ways sp]) = lsOf ways sp ++ [(folX d ways (keysOf ways sp), 0)] := by
  have hm2 := hm
  unfold mayOpen at hm2
  simp only [Bool.and_eq_true, Bool.not_eq_true', decide_eq_false_iff_not] at hm2
  obtain ⟨⟨m1, m2⟩, m3⟩ := hm2
  rcases snoc_cases sp with rfl | ⟨pre, ⟨f, t⟩, rfl⟩
  · rw [openS_nil, lsOf_snoc]
    have hd0 : 0 < d := by
      rcases Nat.eq_zero_or_pos d with e | e
      · exact absurd e.symm m2
      · exact e
    have hf : FolIs d ways [] (segKeys ways 0 0 ways.length) := .inl ⟨0, 0, ways.length, hd0, FindSt.start [] (by omega), rfl⟩
    have := hf.eq hw
    unfold folX keysOf
    rw [List.mapIdx_nil, ← this]
    unfold lvOf
    rw [bnd_nil]
    rfl
  · obtain ⟨A, B, hs, F, e, hl, hge⟩ := (h.lv hw).ok
    rw [endB_snoc] at m1
    have hft : f ≠ t := by simpa using m1
    have hle := F.le
    have hlen : (pre ++ [(f, t)]).length = pre.length + 1 := by simp
    have hk : (keysOf ways (pre ++ [(f, t)])).length = pre.length + 1 := by rw [keysOf_len, hlen]
    have hdep := F.dep
    rw [hlen] at m2
    have hf : FolIs d ways (keysOf ways (pre ++ [(f, t)])) (segKeys ways (pre.length + 1) (st ways pre.length f) (st ways pre.length (f + 1))) := .inl ⟨f, _, _, by omega, F.find hw (by omega), by rw [hk]⟩
    have := hf.eq hw
    rw [openS_snoc, lsOf_snoc]
    unfold folX
    rw [← this]
    unfold lvOf
    rw [bnd_snoc, hlen]
    simp
theorem isEmpty_snoc {α : Type} (l : List α) (x : α) : (l ++ [x]).isEmpty = false := by cases l <;> rfl
theorem lsOf_up (ways : List (List ByteArray)) (sp : List (Nat × Nat)) : lsOf ways sp.dropLast = (lsOf ways sp).dropLast := by
  rcases snoc_cases sp with rfl | ⟨pre, ⟨f, t⟩, rfl⟩
  · rfl
  · rw [List.dropLast_concat, lsOf_snoc, List.dropLast_concat]
section
variable {w : World} {lo lo2 pc rt d : Nat} {ways : List (List ByteArray)} {vL vI : Value} {vs : List Value} {sp : List (Nat × Nat)}
theorem CurOk.len {d : Nat} {ways : List (List ByteArray)} (hw : Ways d ways) {sp : List (Nat × Nat)} (h : CurOk d ways sp) : sp.length ≤ d := by
  rcases snoc_cases sp with rfl | ⟨pre, ⟨f, t⟩, rfl⟩
  · exact Nat.zero_le _
  · obtain ⟨A, B, hs, F, _⟩ := (h.lv hw).ok
    have := F.dep
    simp
    omega
theorem CurOk.size {d : Nat} {ways : List (List ByteArray)} (hw : Ways d ways) {pre : List (Nat × Nat)} {f t : Nat} (h : CurOk d ways (pre ++ [(f, t)])) : (lvOf ways pre f).1.length ≤ ways.length := by
  obtain ⟨A, B, hs, F, e, hl, hge⟩ := (h.lv hw).ok
  rw [e]
  dsimp only
  have := F.small
  omega
theorem r_up (h : RCurV w lo pc rt vL vI vs (lsOf ways sp)) (hw : Ways d ways) (hc : CurOk d ways sp) (hd : d ≤ 64) :
    Calls Tryz.prog 30 #[.pointer (some ⟨pc, 0, none⟩)] w fun e w' => e = .returned (.bool (!sp.isEmpty)) ∧ RCurP lo pc rt vL vI vs (lsOf ways sp.dropLast) w w' := by
  have hl := hc.len hw
  refine (c_rUp lo pc rt vL vI vs _ w h (by rw [lsOf_len]; omega)).mono fun e w' ⟨h1, h2⟩ => ⟨?_, by rw [lsOf_up]; exact h2⟩
  rw [h1]
  have : (lsOf ways sp).isEmpty = sp.isEmpty := by
    rcases snoc_cases sp with rfl | ⟨pre, ⟨f, t⟩, rfl⟩
    · rfl
    · rw [lsOf_snoc, isEmpty_snoc, isEmpty_snoc]
  rw [this]
theorem r_next (h : RCurV w lo pc rt vL vI vs (lsOf ways sp)) (hw : Ways d ways) (hc : CurOk d ways sp) (hd : d ≤ 64) (hn : ways.length ≤ 1000000) :
    Calls Tryz.prog 32 #[.pointer (some ⟨pc, 0, none⟩)] w fun e w' => e = .returned (.bool (nextB sp)) ∧ RCurP lo pc rt vL vI vs (lsOf ways (nextM sp)) w w' := by
  have hl := hc.len hw
  have hl2 : (lsOf ways sp).length ≤ 64 := by rw [lsOf_len]; omega
  rcases snoc_cases sp with rfl | ⟨pre, ⟨f, t⟩, rfl⟩
  · exact (c_rNext_no lo pc rt vL vI vs _ w h hl2 (.inl rfl)).mono fun e w' ⟨h1, h2⟩ => ⟨h1, RCurP.same h h2⟩
  · rw [nextM_snoc, nextB_snoc]
    have hre := rend_lsOf hw hc
    obtain ⟨A, B, hs, F, e, hlv, hge⟩ := (hc.lv hw).ok
    have hsz := hc.size hw
    by_cases hft : f = t
    · rw [if_pos hft, if_pos hft]
      exact (c_rNext_no lo pc rt vL vI vs _ w h hl2 (.inr (by rw [hre, endB_snoc, decide_eq_true hft]))).mono fun e w' ⟨h1, h2⟩ => ⟨h1, RCurP.same h h2⟩
    · rw [if_neg hft, if_neg hft]
      have hle := F.le
      rw [lsOf_snoc, e] at h hl2
      rw [e] at hsz
      dsimp only at hsz
      refine (c_rNext lo pc rt vL vI vs _ _ _ w h hl2 (by omega) (by omega)).mono fun e' w' ⟨h1, h2⟩ => ⟨?_, ?_⟩
      · rw [h1, hlv]
        congr 2
        rw [Bool.not_inj_iff, decide_eq_decide]
        omega
      · rw [lsOf_snoc]
        have e2 : lvOf ways pre (f + 1) = (segKeys ways pre.length A B, f - wid ways pre.length A + 1) := by
          have : lvOf ways pre (f + 1) = ((lvOf ways pre f).1, f + 1 - wid ways pre.length (bnd ways pre).1) := rfl
          rw [this, e, hs.bnd pre (f, t) rfl]
          dsimp only
          rw [show f + 1 - wid ways pre.length A = f - wid ways pre.length A + 1 by omega]
        rw [e2]
        exact h2
theorem r_seek (x : ByteArray) (h : RCurV w lo pc rt vL vI vs (lsOf ways sp)) (hw : Ways d ways) (hc : CurOk d ways sp) (hd : d ≤ 64) (hn : ways.length ≤ 1000000) :
    Calls Tryz.prog 34 #[.pointer (some ⟨pc, 0, none⟩), .string x] w fun e w' => e = .returned (.bool (seekB ways sp x)) ∧ RCurP lo pc rt vL vI vs (lsOf ways (seekM ways sp x)) w w' := by
  have hl := hc.len hw
  have hl2 : (lsOf ways sp).length ≤ 64 := by rw [lsOf_len]; omega
  rcases snoc_cases sp with rfl | ⟨pre, ⟨f, t⟩, rfl⟩
  · exact (c_rSeek_no lo pc rt vL vI vs _ x w h hl2 (.inl rfl)).mono fun e w' ⟨h1, h2⟩ => ⟨h1, RCurP.same h h2⟩
  · rw [seekM_snoc, seekB_snoc]
    have hre := rend_lsOf hw hc
    obtain ⟨A, B, hs, F, e, hlv, hge⟩ := (hc.lv hw).ok
    have hsz := hc.size hw
    by_cases hft : f = t
    · rw [if_pos hft, if_pos hft]
      exact (c_rSeek_no lo pc rt vL vI vs _ x w h hl2 (.inr (by rw [hre, endB_snoc, decide_eq_true hft]))).mono fun e w' ⟨h1, h2⟩ => ⟨h1, RCurP.same h h2⟩
    · rw [if_neg hft, if_neg hft]
      have hle := F.le
      have htop := F.top
      have hbn := wid_mono ways pre.length F.seg.top
      rw [lsOf_snoc, e] at h hl2
      rw [e] at hsz
      dsimp only at hsz
      refine (c_rSeek lo pc rt vL vI vs _ _ _ x w h hl2 (by omega) (by omega)).mono fun e' w' ⟨j, j1, j2, j3, j4, h1, h2⟩ => ?_
      have hk : ∀ i, i < t - wid ways pre.length A → (keysM ways pre.length ways.length)[wid ways pre.length A + i]? = (segKeys ways pre.length A B)[i]? := fun i hi => by
        rw [segKeys_at F.seg (by omega), keysM_at ways pre.length _ (by omega)]
      have hsk : skP (keysM ways pre.length ways.length) f t x = wid ways pre.length A + j := by
        refine skP_is (by omega) (by omega) (by rw [keysM_len]; omega) (fun i y i1 i2 hy => ?_) (fun hlt y hy => ?_)
        · refine j3 (i - wid ways pre.length A) y (by omega) (by omega) ?_
          rw [← hk _ (by omega), show wid ways pre.length A + (i - wid ways pre.length A) = i by omega]
          exact hy
        · rw [hk j (by omega)] at hy
          exact j4 y hy
      rw [hsk]
      refine ⟨?_, ?_⟩
      · rw [h1, hlv]
        congr 2
        rw [Bool.not_inj_iff, decide_eq_decide]
        omega
      · rw [lsOf_snoc]
        have e2 : lvOf ways pre (wid ways pre.length A + j) = (segKeys ways pre.length A B, j) := by
          have : lvOf ways pre (wid ways pre.length A + j) = ((lvOf ways pre f).1, wid ways pre.length A + j - wid ways pre.length (bnd ways pre).1) := rfl
          rw [this, e, hs.bnd pre (f, t) rfl]
          dsimp only
          rw [Nat.add_sub_cancel_left]
        rw [e2]
        exact h2
theorem r_open (h : RCurV w lo pc rt vL vI vs (lsOf ways sp)) (hr : RTrie w lo2 rt d ways) (hw : Ways d ways) (hc : CurOk d ways sp) (hd : d ≤ 64) (hn : ways.length ≤ 1000000) (hlo : lo ≤ w.heap.size) :
    Calls Tryz.prog 28 #[.pointer (some ⟨pc, 0, none⟩)] w fun e w' => e = .returned (.bool (mayOpen d ways sp)) ∧ RCurP lo pc rt vL vI vs (lsOf ways (openM d ways sp)) w w' := by
  have hl := hc.len hw
  have hl2 : (lsOf ways sp).length ≤ 64 := by rw [lsOf_len]; omega
  have hre := rend_lsOf hw hc
  unfold openM
  cases hm : mayOpen d ways sp with
  | false =>
    rw [if_neg (by simp)]
    refine (c_rOpen_no lo lo2 pc rt d ways vL vI vs _ w h hr hl2 ?_).mono fun e w' ⟨h1, h2⟩ => ⟨h1, RCurP.same h h2⟩
    rw [hre, lsOf_len]
    unfold mayOpen at hm
    simp only [Bool.and_eq_false_iff, Bool.not_eq_false', decide_eq_true_eq] at hm
    rcases hm with (hm | hm) | hm
    · exact .inl hm
    · exact .inr (.inl hm)
    · exact .inr (.inr hm)
  | true =>
    rw [if_pos rfl, folX_open hw hc hm]
    have hm2 := hm
    unfold mayOpen at hm2
    simp only [Bool.and_eq_true, Bool.not_eq_true', decide_eq_false_iff_not] at hm2
    obtain ⟨⟨m1, m2⟩, m3⟩ := hm2
    rw [← rkeys_lsOf hw _ sp rfl hc m1]
    exact c_rOpen lo lo2 pc rt d ways vL vI vs _ w h hr hw.len hl2 (by rw [hre]; exact m1) (by rw [lsOf_len]; exact m2) m3 hn ((lsOf_in hw _ sp rfl hc).2 m1) hlo
end
end Go.Proofs.YthjpfplebbnbpaaGreat
