/- The document's trie: the walks of below and put. -/
import Derived.Test.YthjpfplebbnbpaaGreatItems
import Derived.StillTailTactics
import Derived.Deep.CutBlock
namespace Go.Proofs.YthjpfplebbnbpaaGreat
open Go.ChangeShapes Go.WideShapes Go.ChangeAt Go.RowKit
theorem ButS.frozen {S : Nat → Prop} {w x : World} (h : ButS S w x) {b o : Nat} (hb : ¬ S b) (hl : b < w.heap.size) : x.frozen? ⟨b, o, none⟩ = w.frozen? ⟨b, o, none⟩ := by
  have := h.block b hl hb
  simp [World.frozen?, this]
theorem cmp_step {x y : ByteArray} (h : x ≠ y) (xs ys : List ByteArray) : decide (cmpRow (x :: xs) (y :: ys) < 0) = ltB x y := by
  have h0 : cmpB x y ≠ 0 := fun e => h ((cmpB_zero x y).1 e)
  rw [cmpRow, if_pos h0]
  rw [Bool.eq_iff_iff, decide_eq_true_eq]
  exact cmpB_neg x y
set_option maxRecDepth 100000 in
theorem c_rbelow (xs ys : List ByteArray) (aa : Option Addr) (n cap : Nat) (ab : Option Addr) (m cb : Nat) (w : World) (ha : StrsAt w aa n xs) (hb : StrsAt w ab m ys) (hnm : n = m) :
    Calls Tryz.prog 79 #[.slice aa n cap, .slice ab m cb] w fun e w' => e = .returned (.bool (decide (cmpRow xs ys < 0))) ∧ Ext w w' := by
  subst hnm
  have HA := Lib.hid ha
  have HB := Lib.hid hb
  have HL := Lib.hid ha.2.1
  have HM := Lib.hid hb.2.1
  have hn : n ≤ 9223372036854775807 := ha.1
  clear ha hb
  obtain ⟨R, hR⟩ : ∃ R, R = decide (cmpRow xs ys < 0) := ⟨_, rfl⟩
  rw [← hR]
  have FIN := Lib.hid hR
  clear hR
  go_enter Tryz.func79, Tryz.ntmps79
  go_wp2
  go_loopw [5] (fun v wj => ∃ k : Nat, k ≤ n ∧ v = .int .i64 (k : Int) ∧ Ext w wj ∧ R = decide (cmpRow (xs.drop k) (ys.drop k) < 0)) (fun v _ => n - (intOf v).toNat)
  case atStart => exact ⟨0, by omega, rfl, Below.refl _ _, by rw [FIN.out, List.drop_zero, List.drop_zero]⟩
  case round =>
    obtain ⟨k, hk, rfl, hw, hq⟩ := hrel
    have HQ := Lib.hid hq
    have HW := Lib.hid hw
    clear hq
    by_cases hlt : k < n
    · obtain ⟨x, b1, o1, hx, rfl, h1⟩ := (HA.out.keep hw).2.at hlt
      obtain ⟨y, b2, o2, hy, rfl, h2⟩ := (HB.out.keep hw).2.at hlt
      have HX := Lib.hid hx
      have HY := Lib.hid hy
      have g1 : wr.cell? ⟨b1, o1 + k, none⟩ = some (.string x) := by simpa [strAt] using h1
      have g2 : wr.cell? ⟨b2, o2 + k, none⟩ = some (.string y) := by simpa [strAt] using h2
      clear hx hy h1 h2 hw
      obtain ⟨q, eq⟩ : ∃ b, (x.toList == y.toList) = b := ⟨_, rfl⟩
      have EQ := Lib.hid ((beq_bytes x y).symm.trans eq)
      obtain ⟨p, ep⟩ : ∃ p, Op.bytesLess x.toList y.toList = p := ⟨_, rfl⟩
      have EP := Lib.hid ep
      cases q with
      | false =>
        have HRES : Hid (R = p) := by
          show _ = _
          rw [HQ.out, drop_at HX.out, drop_at HY.out, cmp_step (by simpa using EQ.out), ← EP.out]
          rfl
        go_wp2
        go_quiet (fail)
        go_wp2
        go_quiet (fail)
        go_wp2
        go_returns
        exact ⟨by rw [HRES.out]; rfl, ext_drewN (ext_drewN HW.out _) _⟩
      | true =>
        have HRES : Hid (R = decide (cmpRow (xs.drop (k + 1)) (ys.drop (k + 1)) < 0)) := by
          show _ = _
          have e : x = y := by simpa using EQ.out
          subst e
          rw [HQ.out, drop_at HX.out, drop_at HY.out, cmpRow, if_neg (by rw [(cmpB_zero x x).2 rfl]; simp)]
        go_wp2
        go_quiet (fail)
        go_wp2
        go_roundw
        case rel => exact ⟨k + 1, by omega, by go_num, ext_drewN HW.out _, HRES.out⟩
        case measure => simp [intOf]; omega
    · obtain rfl : k = n := by omega
      have hge : ¬ (k : Int) < (k : Int) := by omega
      have HRES : Hid (R = false) := by
        show _ = _
        rw [HQ.out, List.drop_of_length_le (by have := HL.out; omega), List.drop_of_length_le (by have := HM.out; omega)]
        simp [cmpRow]
      go_wp2
      go_returns
      exact ⟨by rw [HRES.out]; rfl, HW.out⟩
/-- The document's trie at block pt: its depth, its ways; they lie from block lo on. -/
structure RTrie (w : World) (lo pt d : Nat) (ways : List (List ByteArray)) : Prop where
  lt : pt < lo
  c0 : w.cell? ⟨pt, 0, none⟩ = some (.int .i64 (d : Int))
  free : w.frozen? ⟨pt, 1, none⟩ = false
  row : ∃ (a : Option Addr) (c : Nat) (vs : List Value), w.cell? ⟨pt, 1, none⟩ = some (.slice a ways.length c) ∧ w.ownsRow lo 46 1 (.slice a ways.length c) ways.length vs ∧ RowsAt lo w vs ways
theorem RTrie.ext {w w' : World} {lo pt d : Nat} {ways : List (List ByteArray)} (h : RTrie w lo pt d ways) (e : Ext w w') : RTrie w' lo pt d ways := by
  obtain ⟨a, c, vs, h1, h2, h3⟩ := h.row
  exact ⟨h.lt, keep e h.c0, (e.frozen (p := ⟨pt, 1, none⟩) (World.block_lt_of_cell? w ⟨pt, 1, none⟩ h1)).trans h.free, a, c, vs, keep e h1, up_ext h2 e, h3.ext e⟩
theorem RTrie.items {w : World} {lo pt d : Nat} {ways : List (List ByteArray)} (h : RTrie w lo pt d ways) : ∃ a c, w.cell? ⟨pt, 1, none⟩ = some (.slice a ways.length c) ∧ ItemsAt w a ways.length ways := by
  obtain ⟨a, c, vs, h1, h2, h3⟩ := h.row
  refine ⟨a, c, h1, (own_len h2).1, rfl, fun i r hr => ?_⟩
  have hi := (List.getElem?_eq_some_iff.1 hr).1
  obtain ⟨v, hv⟩ : ∃ v, vs[i]? = some v := ⟨_, List.getElem?_eq_getElem (by rw [h3.1]; exact hi)⟩
  have ho := h3.2 i r v hr hv
  obtain ⟨a7, c7, rfl, _⟩ := own_form ho
  rcases h2.2 with ⟨h1, h0⟩ | ⟨g, c', cur, e, _⟩
  · omega
  · cases e
    have := h2.cells (g := g) rfl i _ hv
    rw [Addr.add_lit] at this
    exact ⟨g, 0, rfl, a7, r.length, c7, by simpa using this, own_strs ho (own_len ho).1⟩
/-- The list while places behind k are moved up by one. -/
def shiftV (vs : List Value) (u : Value) (k : Nat) : List Value := (vs ++ [u]).take (k + 1) ++ vs.drop k
theorem shiftV_len {vs : List Value} {u : Value} {k : Nat} (h : k ≤ vs.length) : (shiftV vs u k).length = vs.length + 1 := by
  unfold shiftV
  rw [List.length_append, List.length_take, List.length_drop, List.length_append, List.length_singleton]
  omega
theorem shiftV_full (vs : List Value) (u : Value) : shiftV vs u vs.length = vs ++ [u] := by
  unfold shiftV
  rw [List.take_of_length_le (by simp), List.drop_of_length_le (Nat.le_refl _), List.append_nil]
theorem shiftV_get {vs : List Value} {u : Value} {k : Nat} {v : Value} (h : vs[k]? = some v) : (shiftV vs u (k + 1))[k]? = some v := by
  have hk := (List.getElem?_eq_some_iff.1 h).1
  unfold shiftV
  rw [List.getElem?_append_left (by rw [List.length_take, List.length_append, List.length_singleton]; omega), List.getElem?_take, if_pos (by omega), List.getElem?_append_left hk]
  exact h
theorem shiftV_set {vs : List Value} {u : Value} {k : Nat} {v : Value} (h : vs[k]? = some v) : (shiftV vs u (k + 1)).set (k + 1) v = shiftV vs u k := by
  have hk := (List.getElem?_eq_some_iff.1 h).1
  unfold shiftV
  have e1 : (vs ++ [u]).take (k + 1 + 1) = (vs ++ [u]).take (k + 1) ++ [(vs ++ [u])[k + 1]'(by simp; omega)] := by
    rw [List.take_add_one, List.getElem?_eq_getElem (by simp; omega)]
    rfl
  rw [e1, List.append_assoc, List.set_append_right _ _ (by rw [List.length_take, List.length_append, List.length_singleton]; omega)]
  have e2 : k + 1 - ((vs ++ [u]).take (k + 1)).length = 0 := by rw [List.length_take, List.length_append, List.length_singleton]; omega
  rw [e2, List.singleton_append, List.set_cons_zero, drop_at h]
theorem shiftV_end {vs : List Value} {u : Value} {k : Nat} (h : k ≤ vs.length) : (shiftV vs u k).set k u = vs.take k ++ u :: vs.drop k := by
  unfold shiftV
  have e1 : (vs ++ [u]).take (k + 1) = vs.take k ++ [(vs ++ [u])[k]'(by simp; omega)] := by
    rw [List.take_add_one, List.getElem?_eq_getElem (by simp; omega), List.take_append_of_le_length h]
    rfl
  rw [e1, List.append_assoc, List.set_append_right _ _ (by rw [List.length_take]; omega)]
  have e2 : k - (vs.take k).length = 0 := by rw [List.length_take]; omega
  rw [e2, List.singleton_append, List.set_cons_zero]
theorem low_is {rs : List (List ByteArray)} (h : Rising rs) (t : List ByteArray) {k : Nat} (hk : k ≤ rs.length) (h1 : ∀ j x, j < k → rs[j]? = some x → cmpRow x t < 0) (h2 : ∀ x, rs[k]? = some x → ¬ cmpRow x t < 0) : lowB rs t = k := by
  obtain ⟨a, b, c⟩ := low_spec h t
  rcases Nat.lt_trichotomy (lowB rs t) k with e | e | e
  · obtain ⟨y, hy⟩ : ∃ y, rs[lowB rs t]? = some y := ⟨_, List.getElem?_eq_getElem (by omega)⟩
    exact absurd (h1 _ y e hy) (c _ y (Nat.le_refl _) hy)
  · exact e
  · obtain ⟨y, hy⟩ : ∃ y, rs[k]? = some y := ⟨_, List.getElem?_eq_getElem (by omega)⟩
    exact absurd (b k y e hy) (h2 y hy)
def RPutPost (lo pt d : Nat) (ways : List (List ByteArray)) (t : List ByteArray) (w : World) (e : Ending) (w' : World) : Prop := e = .returned (.tuple #[]) ∧ RTrie w' lo pt d (putRow ways t) ∧ ButS (fun b => b = pt ∨ lo ≤ b) w w'
set_option maxRecDepth 100000 in
set_option maxHeartbeats 4000000 in
theorem c_rput (lo pt d : Nat) (ways : List (List ByteArray)) (t : List ByteArray) (a : Option Addr) (c : Nat) (w : World) (h : RTrie w lo pt d ways) (hr : Rising ways) (hlen : ∀ r ∈ ways, r.length = t.length) (hu : w.ownsRow lo 9 1 (.slice a t.length c) t.length (t.map Value.string)) (hn : ways.length ≤ 65536) (hlo : lo ≤ w.heap.size) :
    Calls Tryz.prog 57 #[.pointer (some ⟨pt, 0, none⟩), .slice a t.length c] w (RPutPost lo pt d ways t w) := by
  obtain ⟨i0, hi0, hz0, hz1, hz2⟩ := info_parts info_row
  obtain ⟨aw, cw, vs, h1, h2, h3⟩ := h.row
  obtain ⟨aw', cw', h1', it⟩ := h.items
  rw [h1] at h1'
  cases h1'
  have H := Lib.hid h
  have HR := Lib.hid hr
  have HLEN := Lib.hid hlen
  have HU := Lib.hid hu
  have US := Lib.hid (own_strs hu (own_len hu).1)
  have IT := Lib.hid it
  have ROW := Lib.hid h2
  have RS := Lib.hid h3
  have C1 := Lib.hid h1
  have HLO := Lib.hid hlo
  have FND : Hid (foundB ways t = true → ∀ W, Ext w W → RPutPost lo pt d ways t w (.returned (.tuple #[])) W) := fun hf W hW => ⟨rfl, by
    have e : putRow ways t = ways := by unfold putRow; rw [if_pos hf]
    rw [e]
    exact h.ext hW, (ButS.refl _ _).ext hW⟩
  obtain ⟨n, hnn⟩ : ∃ n, ways.length = n := ⟨_, rfl⟩
  have HN := Lib.hid hnn
  obtain ⟨tn, htn⟩ : ∃ tn, t.length = tn := ⟨_, rfl⟩
  have HTN := Lib.hid htn
  rw [hnn] at IT ROW C1 hn
  rw [htn] at US HU HLEN ⊢
  clear h hr hlen hu it h1 h2 h3 hnn htn hlo
  go_enter Tryz.func57, Tryz.ntmps57
  go_upto_block 0 with (fail)
  obtain ⟨L, hL⟩ : ∃ L, lowB ways t = L := ⟨_, rfl⟩
  have HL := Lib.hid hL
  have LS : Hid (L ≤ n ∧ (∀ j x, j < L → ways[j]? = some x → cmpRow x t < 0) ∧ ∀ j y, L ≤ j → ways[j]? = some y → ¬ cmpRow y t < 0) := by
    have := low_spec HR.out t
    rw [hL, HN.out] at this
    exact this
  have hLn : L ≤ n := LS.out.1
  clear hL
  go_cut [4] (fun v4 wc => v4 = .int .i64 (L : Int) ∧ Ext w wc)
  case first =>
    go_wp2
    go_loopw [4] (fun v wj => ∃ k : Nat, k ≤ L ∧ v = .int .i64 (k : Int) ∧ Ext w wj) (fun v _ => L - (intOf v).toNat)
    case atStart => exact ⟨0, Nat.zero_le _, rfl, Below.refl _ _⟩
    case round =>
      obtain ⟨k, hk, rfl, hw⟩ := hrel
      have HW := Lib.hid hw
      have c1 := keep hw C1.out
      by_cases hlt : k < n
      · have hki : (k : Int) < (n : Int) := by omega
        obtain ⟨x, b1, o1, hx, rfl, a5, n5, c5, g1, g2⟩ := (IT.out.keep hw).2.at hlt
        have g1 : wr.cell? ⟨b1, o1 + k, none⟩ = some (.slice a5 n5 c5) := by simpa using g1
        have hnt : n5 = tn := by
          have e1 := HLEN.out x (List.mem_of_getElem? hx)
          have e2 := g2.2.1
          omega
        obtain ⟨b, hb⟩ : ∃ b, decide (cmpRow x t < 0) = b := ⟨_, rfl⟩
        have BE : Hid (Calls Tryz.prog 79 #[.slice a5 n5 c5, .slice a tn c] wr fun e w' => e = .returned (.bool b) ∧ Ext wr w') := by
          have := c_rbelow x t a5 n5 c5 a tn c wr g2 (US.out.keep hw) hnt
          rwa [hb] at this
        cases b with
        | true =>
          have hkL : k < L := by
            rcases Nat.lt_or_ge k L with h | h
            · exact h
            · have h5 := LS.out.2.2 k x h hx
              have h6 : cmpRow x t < 0 := by simpa using hb
              omega
          clear hx g2 hw hb hnt
          go_wp2_with (go_at_call 79; (with_reducible refine BE.out.mono ?_); rintro e w2 ⟨rfl, E2⟩)
          go_roundw
          case rel => exact ⟨k + 1, by omega, by go_num, ext_trans HW.out E2⟩
          case measure => simp [intOf]; omega
        | false =>
          have hkL : k = L := by
            rcases Nat.lt_or_ge k L with h | h
            · have h5 := LS.out.2.1 k x h hx
              have h6 : ¬ cmpRow x t < 0 := by simpa using hb
              omega
            · omega
          subst hkL
          clear hx g2 hw hb hnt
          go_wp2_with (go_at_call 79; (with_reducible refine BE.out.mono ?_); rintro e w2 ⟨rfl, E2⟩)
          go_meet
          exact ⟨rfl, ext_trans HW.out E2⟩
      · obtain rfl : k = n := by omega
        obtain rfl : k = L := by omega
        have hge : ¬ (k : Int) < (k : Int) := by omega
        go_wp2
        go_meet
        exact ⟨rfl, HW.out⟩
  case rest =>
    obtain ⟨rfl, hw⟩ := hcut
    go_upto_region 3 with (fail)
    go_cut [4, 44] (fun v4 v44 wc => v4 = .int .i64 (L : Int) ∧ Ext w wc ∧ ∃ F : Bool, v44 = .bool F ∧ foundB ways t = F)
    case first =>
      have HW := Lib.hid hw
      have c1 := keep hw C1.out
      by_cases hlt : L < n
      · have hki : (L : Int) < (n : Int) := by omega
        obtain ⟨x, b1, o1, hx, rfl, a5, n5, c5, g1, g2⟩ := (IT.out.keep hw).2.at hlt
        have g1 : wc.cell? ⟨b1, o1 + L, none⟩ = some (.slice a5 n5 c5) := by simpa using g1
        have hnt : n5 = tn := by
          have e1 := HLEN.out x (List.mem_of_getElem? hx)
          have e2 := g2.2.1
          omega
        obtain ⟨b, hb⟩ : ∃ b, decide (cmpRow t x < 0) = b := ⟨_, rfl⟩
        have BE : Hid (Calls Tryz.prog 79 #[.slice a tn c, .slice a5 n5 c5] wc fun e w' => e = .returned (.bool b) ∧ Ext wc w') := by
          have := c_rbelow t x a tn c a5 n5 c5 wc (US.out.keep hw) g2 hnt.symm
          rwa [hb] at this
        have hge := LS.out.2.2 L x (Nat.le_refl _) hx
        cases b with
        | true =>
          have HNF : Hid (foundB ways t = false) := by
            refine (Bool.not_eq_true _).mp ?_
            intro hf
            unfold foundB at hf
            rw [HL.out, hx] at hf
            have h0 : cmpRow x t = 0 := by simpa using hf
            rw [(cmpRow_zero x t).1 h0, (cmpRow_zero t t).2 rfl] at hb
            cases hb
          clear hx g2 hw hb hnt hge
          go_wp2_with (go_at_call 79; (with_reducible refine BE.out.mono ?_); rintro e w2 ⟨rfl, E2⟩)
          go_meet
          exact ⟨rfl, ext_trans HW.out E2, false, rfl, HNF.out⟩
        | false =>
          have HF : Hid (foundB ways t = true) := by
            show _ = _
            unfold foundB
            rw [HL.out, hx]
            have h1 : ¬ cmpRow t x < 0 := by simpa using hb
            have h2 := cmpRow_swap x t
            have h3 : cmpRow x t = 0 := by omega
            simp [h3]
          clear hx g2 hw hb hnt hge
          go_wp2_with (go_at_call 79; (with_reducible refine BE.out.mono ?_); rintro e w2 ⟨rfl, E2⟩)
          go_meet
          exact ⟨rfl, ext_trans HW.out E2, true, rfl, HF.out⟩
      · obtain rfl : L = n := by omega
        have hge : ¬ (L : Int) < (L : Int) := by omega
        have HNF : Hid (foundB ways t = false) := by
          show _ = _
          unfold foundB
          rw [HL.out, List.getElem?_eq_none (by rw [HN.out]; exact Nat.le_refl _)]
        go_wp2
        go_meet
        exact ⟨rfl, HW.out, false, rfl, HNF.out⟩
    case rest =>
      obtain ⟨rfl, hw, F, rfl, hnf⟩ := hcut
      have HW := Lib.hid hw
      cases F with
      | true =>
        have HF := Lib.hid hnf
        go_wp2
        go_end0
        exact FND.out HF.out _ HW.out
      | false =>
      have HNF : Hid (¬ foundB ways t = true) := by
        show ¬ _
        rw [hnf]
        simp
      have LTV : Hid (pt < lo) := H.out.lt
      have hrow := up_ext ROW.out hw
      have HROW := Lib.hid hrow
      have c1 := keep hw C1.out
      have f1 : wc.frozen? ⟨pt, 1, none⟩ = false := (H.out.ext hw).free
      have hnb : ∀ b, (Value.slice aw n cw).ownBlock = some b → b ≠ pt := fun b e hb => by
        have := (hrow.lt b e).1
        have := LTV.out
        omega
      have HNB := Lib.hid hnb
      have hpt : pt < wc.heap.size := World.block_lt_of_cell? wc ⟨pt, 1, none⟩ c1
      have HPT := Lib.hid hpt
      have B1 : Hid (n + 1 ≤ maxLen) := by show _ ≤ _; unfold maxLen; omega
      have B2 : Hid ((n + 1) * 24 ≤ 140737488355328) := by show _ ≤ _; omega
      have HBW : Hid (lo ≤ wc.heap.size) := Nat.le_trans HLO.out hw.size
      have C0 : Hid (wc.cell? ⟨pt, 0, none⟩ = some (.int .i64 (d : Int))) := (H.out.ext hw).c0
      have CC1 := Lib.hid c1
      have CF1 := Lib.hid f1
      clear hw hnf hrow hnb hpt
      go_upto_region 5 with (first
        | (at_builtin; go_loud (refine wpList_append_one _ rfl _ _ 22 rfl lo 46 i0 (.slice none 0 0) 1 24 Tryz.underlying22 hi0 hz0 hz1 hz2 rfl (by decide) aw n cw vs rfl (HROW.out.alloc _) ⟨wc.heap.size, 0, none⟩ 1 [.slice a tn c] rfl rfl (news1 _ _ _) (fun u hu => by cases List.mem_singleton.1 hu; rfl) B1.out B2.out (size_alloc_le HBW.out) ?_; intro g7 p7 w7 r1 r2 r3 r4; have bb := (((ButS.refl (fun b => (Value.slice aw n cw).ownBlock = some b) wc).alloc _).grown r2 (fun b e => .inl e)); have q1 := bb.cell (b := pt) (fun e => HNB.out pt e rfl) CC1.out; have q2 := bb.frozen (b := pt) (o := 1) (fun e => HNB.out pt e rfl) HPT.out; rw [CF1.out] at q2)))
      have g7ne : g7 ≠ pt := fun e => by
        rcases r3 with h | h
        · exact HNB.out g7 h e
        · have := HPT.out
          simp at h
          omega
      have q0 := bb.cell (b := pt) (fun e => HNB.out pt e rfl) C0.out
      refine wp_gen (fun W8 hW8 => ?_)
      have D1 : Hid (W8.cell? ⟨pt, 1, none⟩ = some (.slice (some ⟨g7, 0, none⟩) (n + 1) p7)) := by
        show _ = _
        rw [hW8]
        exact World.cell?_setCell_same _ _ _ q1
      have D0 : Hid (W8.cell? ⟨pt, 0, none⟩ = some (.int .i64 (d : Int))) := by
        show _ = _
        rw [hW8, World.cell?_setCell_other _ _ _ _ (by simp)]
        exact q0
      have DF : Hid (W8.frozen? ⟨pt, 1, none⟩ = false) := by
        show _ = _
        rw [hW8, World.frozen?_setCell]
        exact q2
      have DR : Hid (W8.ownsRow lo 46 1 (.slice (some ⟨g7, 0, none⟩) (n + 1) p7) (n + 1) (shiftV vs (.slice a tn c) n)) := by
        show World.ownsRow _ _ _ _ _ _ _
        rw [hW8]
        have e : shiftV vs (.slice a tn c) n = vs ++ [.slice a tn c] := by
          have := shiftV_full vs (.slice a tn c)
          have h5 := HROW.out.1
          rwa [show vs.length = n by omega] at this
        rw [e]
        exact ownsRow_setCell_below r1 (a := ⟨pt, 1, none⟩) LTV.out _
      have DS : Hid (∀ (v : Value) (m : Nat) (xs : List Value), w.ownsRow lo 9 1 v m xs → W8.ownsRow lo 9 1 v m xs) := fun v m xs ho => by
        rw [hW8]
        have ho2 := up_ext ho HW.out
        exact ownsRow_setCell_below (bb.own ho2 (fun b e1 e2 => by
          rcases own_apart ho2 HROW.out (by decide) with h | h
          · rw [h] at e1
            cases e1
          · exact h (e1.trans e2.symm))) (a := ⟨pt, 1, none⟩) LTV.out _
      have DB : Hid (ButS (fun b => b = pt ∨ lo ≤ b) w W8) := by
        show ButS _ _ _
        rw [hW8]
        exact (((ButS.refl _ w).ext HW.out).trans (bb.mono fun b _ e => .inr (HROW.out.lt b e).1)).set (.inl (.inl rfl)) _ _
      have hglo : lo ≤ g7 := (r1.lt g7 rfl).1
      have GLO := Lib.hid hglo
      have G7 := Lib.hid g7ne
      clear hW8 r1 r2 r3 r4 bb q0 q1 q2 g7ne hglo c1 f1
      have d1 := D1.out
      go_wp2
      go_loopw [5] (fun v wj => ∃ k : Nat, L ≤ k ∧ k ≤ n ∧ v = .int .i64 (k : Int) ∧ wj.ownsRow lo 46 1 (.slice (some ⟨g7, 0, none⟩) (n + 1) p7) (n + 1) (shiftV vs (.slice a tn c) k) ∧ ButS (fun b => b = g7) W8 wj) (fun v _ => (intOf v).toNat)
      case atStart => exact ⟨n, hLn, Nat.le_refl _, by go_num, DR.out, ButS.refl _ _⟩
      case round =>
        obtain ⟨k, hkL, hkn, rfl, hrow, hbut⟩ := hrel
        have HRW := Lib.hid hrow
        have HBT := Lib.hid hbut
        have VL : Hid (vs.length = n) := by
          have h5 := ROW.out.1
          show _ = _
          omega
        have d1 := hbut.cell (b := pt) (fun e => G7.out e.symm) D1.out
        by_cases hkk : k = L
        · subst hkk
          have hge : ¬ (k : Int) < (k : Int) := by omega
          obtain ⟨uu, huu⟩ : ∃ u, (shiftV vs (.slice a tn c) k)[k]? = some u := ⟨_, List.getElem?_eq_getElem (by rw [shiftV_len (by have := VL.out; omega)]; have := VL.out; omega)⟩
          have e1 := hrow.cells (g := g7) rfl k uu huu
          rw [Addr.add_lit, Nat.zero_add] at e1
          have e2 : wr.frozen? ⟨g7, k, none⟩ = false := hrow.frozenAt _
          have hki : (k : Int) < (n : Int) + 1 := by omega
          have FIN : Hid (RPutPost lo pt d ways t w (.returned (.tuple #[])) (wr.setCell ⟨g7, k, none⟩ (.slice a tn c))) := by
            have e5 : putRow ways t = ways.take k ++ t :: ways.drop k := by unfold putRow; rw [if_neg HNF.out, HL.out]
            have e6 : (putRow ways t).length = n + 1 := by rw [e5, List.length_append, List.length_take, List.length_cons, List.length_drop, HN.out]; omega
            have s1 := (hrow.stored k (.slice a tn c)).1
            rw [shiftV_end (by have := VL.out; omega)] at s1
            have b2 : ButS (fun b => b = g7) W8 (wr.setCell ⟨g7, k, none⟩ (.slice a tn c)) := hbut.set (.inl rfl) _ _
            have str : ∀ (v : Value) (m : Nat) (xs : List Value), w.ownsRow lo 9 1 v m xs → (wr.setCell ⟨g7, k, none⟩ (.slice a tn c)).ownsRow lo 9 1 v m xs := fun v m xs ho => by
              have h8 := DS.out v m xs ho
              refine b2.own h8 (fun b e9 e10 => ?_)
              rcases own_apart h8 DR.out (by decide) with h | h
              · rw [h] at e9
                cases e9
              · subst e10
                exact h (e9.trans rfl)
            refine ⟨rfl, ⟨LTV.out, b2.cell (fun e => G7.out e.symm) D0.out, ?_, some ⟨g7, 0, none⟩, p7, vs.take k ++ .slice a tn c :: vs.drop k, ?_, ?_, ?_, ?_⟩, ?_⟩
            · have := b2.frozen (b := pt) (o := 1) (fun e => G7.out e.symm) (World.block_lt_of_cell? W8 ⟨pt, 1, none⟩ D1.out)
              rw [this]
              exact DF.out
            · rw [e6]
              exact b2.cell (fun e => G7.out e.symm) D1.out
            · rw [e6]
              exact s1
            · rw [e6, List.length_append, List.length_take, List.length_cons, List.length_drop, VL.out]
              omega
            · intro i r v hr hv
              rw [e5] at hr
              exact rows_put (P := fun (r : List ByteArray) v => (wr.setCell ⟨g7, k, none⟩ (.slice a tn c)).ownsRow lo 9 1 v r.length (r.map Value.string)) (by rw [VL.out, HN.out]) (fun i r v hr hv => str _ _ _ (RS.out.2 i r v hr hv)) (by
                have := str _ _ _ HU.out
                rw [HTN.out]
                exact this) (by rw [HN.out]; omega) i r v hr hv
            · exact DB.out.trans (b2.mono fun b _ e => .inr (by rw [e]; exact GLO.out))
          clear hrow hbut huu
          go_wp2
          go_end0
          exact FIN.out
        · obtain ⟨j, rfl⟩ : ∃ j, k = j + 1 := ⟨k - 1, by omega⟩
          obtain ⟨v, hv⟩ : ∃ v, vs[j]? = some v := ⟨_, List.getElem?_eq_getElem (by have := VL.out; omega)⟩
          obtain ⟨y, hy⟩ : ∃ y, ways[j]? = some y := ⟨_, List.getElem?_eq_getElem (by have := HN.out; omega)⟩
          obtain ⟨a6, c6, rfl, _⟩ := own_form (RS.out.2 j y v hy hv)
          have e1 := hrow.cells (g := g7) rfl j _ (shiftV_get hv)
          rw [Addr.add_lit, Nat.zero_add] at e1
          obtain ⟨uu, huu⟩ : ∃ u, (shiftV vs (.slice a tn c) (j + 1))[j + 1]? = some u := ⟨_, List.getElem?_eq_getElem (by rw [shiftV_len (by have := VL.out; omega)]; have := VL.out; omega)⟩
          have e3 := hrow.cells (g := g7) rfl (j + 1) uu huu
          rw [Addr.add_lit, Nat.zero_add] at e3
          have e2 : wr.frozen? ⟨g7, j + 1, none⟩ = false := hrow.frozenAt _
          have NX : Hid ((wr.drew.setCell ⟨g7, j + 1, none⟩ (.slice a6 y.length c6)).ownsRow lo 46 1 (.slice (some ⟨g7, 0, none⟩) (n + 1) p7) (n + 1) (shiftV vs (.slice a tn c) j) ∧ ButS (fun b => b = g7) W8 (wr.drew.setCell ⟨g7, j + 1, none⟩ (.slice a6 y.length c6))) := by
            have s1 := (hrow.drew.stored (j + 1) (.slice a6 y.length c6)).1
            rw [shiftV_set hv] at s1
            exact ⟨s1, (hbut.ext (ext_drew (Below.refl _ _))).set (.inl rfl) _ _⟩
          have hgt : (L : Int) < (j : Int) + 1 := by omega
          have hjn : (j : Int) < (n : Int) + 1 := by omega
          have hjn2 : (j : Int) + 1 < (n : Int) + 1 := by omega
          have w1 : IntKind.i64.wrap (j : Int) = (j : Int) := by rw [IntKind.wrap_i64]; omega
          have z1 : (0 : Int) ≤ (j : Int) + 1 := by omega
          have z2 : ((j : Int) + 1).toNat = j + 1 := by omega
          clear hrow hbut huu hv hy
          go_wp2
          go_still_tail 14, (by kernel_rfl)
          change wpList _ _ _ _ _ wr.drew
          go_wp2
          go_roundw
          case rel => exact ⟨j, by omega, by omega, by go_num, NX.out⟩
          case measure => simp [intOf]
end Go.Proofs.YthjpfplebbnbpaaGreat
