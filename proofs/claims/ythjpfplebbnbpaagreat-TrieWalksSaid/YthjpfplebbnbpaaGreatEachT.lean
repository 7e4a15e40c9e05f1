/- The walk of the trie's Each: the iterator hands out all ways in their order, each in new memory. -/
import Derived.Test.YthjpfplebbnbpaaGreatRng
import Derived.Test.YthjpfplebbnbpaaGreatDfs
import Derived.Test.YthjpfplebbnbpaaGreatCurL
namespace Go.Proofs.YthjpfplebbnbpaaGreat
open Go.ChangeShapes Go.WideShapes Go.ChangeAt Go.RowKit Go.Shelf
attribute [local go_sem] Oper.semAt_some
/-- A block of a cursor, by its type. -/
def CurT (w : World) (b : Nat) : Prop := ∃ cs t x, w.heap[b]? = some (.cells cs t x) ∧ (t = 35 ∨ t = 81)
theorem CurV.typed {w : World} {lo pc pt : Nat} {rb : Option Nat} {sp : List (Nat × Nat)} (h : CurV w lo pc pt rb sp) : ∀ b, CurB pc rb b → CurT w b := fun b hb => by
  obtain ⟨⟨a, c, h1, h2, h3⟩, _⟩ := h
  rcases hb with rfl | hb
  · exact ⟨_, _, _, h1, .inl rfl⟩
  · rw [hb] at h3
    rcases h2.2 with ⟨e, _⟩ | ⟨g', c', cur, e, _, hg', _⟩
    · rw [e] at h3; cases h3
    · rw [e] at h3
      cases h3
      exact ⟨_, _, _, hg', .inr rfl⟩
/-- The spans of a cursor, read from memory: for measures. -/
def rdSp (W : World) (pc : Nat) : List (Nat × Nat) := match W.cell? ⟨pc, 1, none⟩ with
  | some (.slice (some a) n _) => (List.range n).map fun i => (natAt W ⟨a.block, i * 2, none⟩, natAt W ⟨a.block, i * 2 + 1, none⟩)
  | _ => []
where
  natAt (W : World) (a : Addr) : Nat := match W.cell? a with
    | some (.int _ i) => i.toNat
    | _ => 0
theorem CurV.rd {w : World} {lo pc pt : Nat} {rb : Option Nat} {sp : List (Nat × Nat)} (h : CurV w lo pc pt rb sp) : rdSp w pc = sp := by
  obtain ⟨⟨a, c, h1, h2, h3⟩, _⟩ := h
  have h4 : w.cell? ⟨pc, 1, none⟩ = some (.slice a sp.length c) := by simp [World.cell?, h1]
  unfold rdSp
  rw [h4]
  rcases h2.2 with ⟨e, e2⟩ | ⟨g', c', cur, e, _, hg', _⟩
  · injection e with e1 _ _
    subst e1
    show [] = sp
    exact (List.eq_nil_of_length_eq_zero e2).symm
  · cases e
    apply List.ext_getElem?
    intro i
    dsimp only
    rw [List.getElem?_map]
    rcases Nat.lt_or_ge i sp.length with hi | hi
    · rw [List.getElem?_range hi, List.getElem?_eq_getElem hi]
      obtain ⟨s1, s2⟩ := spV_at sp i sp[i] (List.getElem?_eq_getElem hi)
      have c1 := h2.cells (g := g') rfl _ _ s1
      have c2 := h2.cells (g := g') rfl _ _ s2
      rw [Addr.add_lit, Nat.zero_add] at c1 c2
      simp [rdSp.natAt, c1, c2]
    · rw [List.getElem?_eq_none (by simpa using hi), List.getElem?_eq_none hi]
      rfl
/-- How far a cursor has come that meets all ways. -/
def phi (d : Nat) (ways : List (List ByteArray)) (sp : List (Nat × Nat)) : Nat := match sp.getLast? with
  | none => 0
  | some s => 2 * pot d ways sp.dropLast (st ways (sp.length - 1) s.1) + 2 - sp.length
theorem phi_snoc (d : Nat) (ways : List (List ByteArray)) (pre : List (Nat × Nat)) (f t : Nat) : phi d ways (pre ++ [(f, t)]) = 2 * pot d ways pre (st ways pre.length f) + 2 - (pre ++ [(f, t)]).length := by
  unfold phi
  rw [List.getLast?_concat, List.dropLast_concat]
  simp
/-- Where a cursor stands that meets all ways, one level open at least. -/
def At1 (d : Nat) (ways : List (List ByteArray)) (sp : List (Nat × Nat)) (cur : Nat) : Prop := ∃ pre f t A B, sp = pre ++ [(f, t)] ∧ CurSt d ways sp A B ∧ cur = st ways pre.length f ∧ phi d ways sp + sp.length ≤ 2 * pot d ways pre cur + 2
theorem DfsSt.at1 {d : Nat} {ways : List (List ByteArray)} {s : Nat} {sp : List (Nat × Nat)} {cur : Nat} (h : DfsSt d ways s sp cur) (hne : sp ≠ []) : At1 d ways sp cur ∧ s ≤ phi d ways sp := by
  rcases h.inv with ⟨rfl, _⟩ | ⟨pre, f, t, A, B, rfl, h1, h2, h3⟩
  · exact absurd rfl hne
  · have e := phi_snoc d ways pre f t
    rw [← h2] at e
    exact ⟨⟨pre, f, t, A, B, rfl, h1, h2, by omega⟩, by omega⟩
theorem At1.bound {d : Nat} {ways : List (List ByteArray)} {sp : List (Nat × Nat)} {cur : Nat} (h : At1 d ways sp cur) : phi d ways sp ≤ 2 * (d * ways.length) + 2 := by
  obtain ⟨pre, f, t, A, B, rfl, h1, h2, h3⟩ := h
  have := pot_le h1 cur (by rw [h2]; exact st_le ways _ _)
  omega
/-- The iterator's word: of what lay it changes cursors alone, laid since n0. -/
def JOk (n0 : Nat) (J : Nat → World → Prop) : Prop := ∀ k W W', J k W → ButS (fun b => n0 ≤ b ∧ CurT W b) W W' → J k W'
theorem JOk.ext {n0 : Nat} {J : Nat → World → Prop} (h : JOk n0 J) {k : Nat} {W W' : World} (hj : J k W) (he : Ext W W') : J k W' := h k W W' hj ((ButS.refl _ W).ext he)
/-- What a round may change: what X names, and what was laid since the walk began, but no cursor. -/
def RndB (X : Nat → Prop) (w W : World) (b : Nat) : Prop := (X b ∨ w.heap.size ≤ b) ∧ ¬ CurT W b
/-- What the walk of Each keeps. -/
structure EachSt (w0 w : World) (pc pt bx : Nat) (J : Nat → World → Prop) (rb : Option Nat) (sp : List (Nat × Nat)) (k : Nat) (W : World) : Prop where
  lo : w.heap.size ≤ pc
  le : w0.heap.size ≤ w.heap.size
  blt : bx < w.heap.size
  ext : Ext w0 W
  box : W.cell? ⟨bx, 0, none⟩ = some (.pointer (some ⟨pt, 0, none⟩))
  cur : CurV W pc pc pt rb sp
  inv : J k W
theorem EachSt.keep {w0 w : World} {pc pt bx : Nat} {J : Nat → World → Prop} {rb : Option Nat} {sp : List (Nat × Nat)} {k : Nat} {W W' : World} (hJ : JOk w.heap.size J) (h : EachSt w0 w pc pt bx J rb sp k W) (e : Ext W W') : EachSt w0 w pc pt bx J rb sp k W' :=
  ⟨h.lo, h.le, h.blt, ext_trans h.ext e, YthjpfplebbnbpaaGreat.keep e h.box, h.cur.ext e, hJ.ext h.inv e⟩
theorem EachSt.move {w0 w : World} {pc pt bx : Nat} {J : Nat → World → Prop} {rb rb' : Option Nat} {sp sp' : List (Nat × Nat)} {k : Nat} {W W' : World} (hJ : JOk w.heap.size J) (h : EachSt w0 w pc pt bx J rb sp k W) (c : CurV W' pc pc pt rb' sp') (b : ButS (CurB pc rb) W W') : EachSt w0 w pc pt bx J rb' sp' k W' :=
  have low : ∀ b, CurB pc rb b → w.heap.size ≤ b := fun b hb => Nat.le_trans h.lo (h.cur.low b hb)
  ⟨h.lo, h.le, h.blt, ext_of_but h.ext b (fun k hk hh => by have := low k hh; have := h.le; omega), b.cell (fun hh => by have := low bx hh; have := h.blt; omega) h.box, c, hJ _ _ _ h.inv (b.mono fun k _ hk => ⟨low k hk, h.cur.typed k hk⟩)⟩
theorem EachSt.round {X : Nat → Prop} {w0 w : World} {pc pt bx : Nat} {J : Nat → World → Prop} {rb : Option Nat} {sp : List (Nat × Nat)} {k k' : Nat} {W W' : World} (h : EachSt w0 w pc pt bx J rb sp k W) (hX : ∀ b, X b → w0.heap.size ≤ b ∧ b ≠ bx) (hj : J k' W') (b : ButS (RndB X w W) W W') : EachSt w0 w pc pt bx J rb sp k' W' :=
  ⟨h.lo, h.le, h.blt, ext_of_but h.ext b (fun k hk hh => by
    rcases hh.1 with h1 | h1
    · have := (hX k h1).1; omega
    · have := h.le; omega), b.cell (fun hh => by
    rcases hh.1 with h1 | h1
    · exact (hX bx h1).2 rfl
    · have := h.blt; omega) h.box, h.cur.buts b (fun k hk hh => hh.2 (h.cur.typed k hk)), hj⟩
theorem ways_zero {ways : List (List ByteArray)} (hw : Ways 0 ways) : ways.length = 0 ∨ (ways.length = 1 ∧ ways[0]? = some []) := by
  rcases Nat.lt_or_ge ways.length 2 with h | h
  · rcases Nat.eq_zero_or_pos ways.length with h0 | h0
    · exact .inl h0
    · refine .inr ⟨by omega, ?_⟩
      obtain ⟨e1, e2⟩ := hw.at h0
      rw [e1, List.eq_nil_of_length_eq_zero e2]
  · have h1 := hw.lt (m := 0) (k := 1) (by omega) (by omega)
    have e0 := List.eq_nil_of_length_eq_zero (hw.at (m := 0) (by omega)).2
    have e1 := List.eq_nil_of_length_eq_zero (hw.at (m := 1) (by omega)).2
    rw [e0, e1] at h1
    exact absurd h1 (by decide)
/-- How far there is to go. -/
def togo (d : Nat) (ways : List (List ByteArray)) (sp : List (Nat × Nat)) : Nat := if sp = [] then 0 else 2 * (d * ways.length) + 4 - phi d ways sp
theorem togo_less {d : Nat} {ways : List (List ByteArray)} {sp sp' : List (Nat × Nat)} {cur cur' : Nat} (h : At1 d ways sp cur) (h' : DfsSt d ways (phi d ways sp + 1) sp' cur') (hne : sp ≠ []) : togo d ways sp' < togo d ways sp := by
  have h1 := h.bound
  unfold togo
  rw [if_neg hne]
  split
  · omega
  · rename_i hs
    have := (h'.at1 hs).2
    omega
/-- What is asked of a call of yield. -/
def YldOk (X : Nat → Prop) (l : Nat) (ways : List (List ByteArray)) (w : World) (J Jx : Nat → World → Prop) : Prop := ∀ k r W0 W a n c, ways[k]? = some r → J k W0 → Ext W0 W → W.ownsRow W0.heap.size 9 1 (.slice a n c) n (r.map Value.string) → YieldAt Fence.wide 3 Tryz.prog l #[.slice a n c] W fun e W' => (e = .returned (.bool true) ∧ J (k + 1) W' ∧ ButS (RndB X w W) W W') ∨ (e = .returned (.bool false) ∧ Jx (k + 1) W')
set_option maxRecDepth 100000 in
set_option maxHeartbeats 8000000 in
theorem c_each1 (pt d bx l : Nat) (ways : List (List ByteArray)) (w0 w : World) (hb : w.cell? ⟨bx, 0, none⟩ = some (.pointer (some ⟨pt, 0, none⟩))) (h : TrieV w0 pt d ways) (he : Ext w0 w) (hw : Ways d ways) (hd : d ≤ 64) (hn : ways.length ≤ 1000000) (X : Nat → Prop) (hX : ∀ b, X b → w0.heap.size ≤ b ∧ b ≠ bx) (J Jx : Nat → World → Prop) (hJ : JOk w.heap.size J) (hY : YldOk X l ways w J Jx) (h0 : J 0 w) :
    CallsIn Fence.wide 4 Tryz.prog 65 #[.func (.yield l) #[] #[], .pointer (some ⟨bx, 0, none⟩)] w fun e W' => (∃ v, e = .returned v) ∧ (J ways.length W' ∨ ∃ k, Jx k W') := by
  have TV := Lib.hid h
  have HE := Lib.hid he
  have HW := Lib.hid hw
  have HX := Lib.hid hX
  have HJ := Lib.hid hJ
  have HY := Lib.hid hY
  have HB := Lib.hid hb
  have H0 := Lib.hid h0
  have DP : Hid (∀ W, Ext w0 W → Calls Tryz.prog 17 #[.pointer (some ⟨pt, 0, none⟩)] W fun e w' => e = .returned (.int .i64 (d : Nat)) ∧ w' = W) := fun W hW => c_depth pt d ways W (TV.out.ext hW)
  have LN : Hid (∀ W, Ext w0 W → Calls Tryz.prog 16 #[.pointer (some ⟨pt, 0, none⟩)] W fun e w' => e = .returned (.int .i64 (ways.length : Nat)) ∧ w' = W) := fun W hW => c_lenT pt d ways W (TV.out.ext hW)
  clear h hw hJ hY h0 he hX
  refine callsIn_of_wp Tryz.func65 rfl trivial ?_ rfl
  simp only [Tryz.ntmps65, List.size_toArray, List.length_cons, List.length_nil, Nat.reduceAdd, Nat.reduceSub, Array.replicate_succ, Array.replicate_zero, List.push_toArray, List.append_toArray, List.nil_append, List.cons_append]
  by_cases hd0 : d = 0
  · subst hd0
    rcases ways_zero HW.out with hN | ⟨hN, hr⟩
    · rw [hN] at LN ⊢
      gi_wp2_with (first
        | (refine ⟨trivial, ?_⟩; gi_at_call 17; refine (callsIn_wide.2 (DP.out _ HE.out)).mono ?_; rintro e w2 ⟨rfl, hw2⟩; obtain rfl := hw2.symm)
        | (refine ⟨trivial, ?_⟩; gi_at_call 16; refine (callsIn_wide.2 (LN.out _ HE.out)).mono ?_; rintro e w2 ⟨rfl, hw2⟩; obtain rfl := hw2.symm))
      exact bodyPost_ret (results_none rfl _ _ _) rfl ⟨⟨_, rfl⟩, .inl H0.out⟩
    · rw [hN] at LN ⊢
      obtain ⟨fn, tmps, assign, body, hy, hR⟩ := HY.out 0 [] w w none 0 0 hr H0.out (Below.refl _ _) (World.ownsRow_nil _ _ _ _)
      gi_wp2_with (first
        | (refine ⟨trivial, ?_⟩; gi_at_call 17; refine (callsIn_wide.2 (DP.out _ HE.out)).mono ?_; rintro e w2 ⟨rfl, hw2⟩; obtain rfl := hw2.symm)
        | (refine ⟨trivial, ?_⟩; gi_at_call 16; refine (callsIn_wide.2 (LN.out _ HE.out)).mono ?_; rintro e w2 ⟨rfl, hw2⟩; obtain rfl := hw2.symm))
      refine hR.mono ?_
      rintro e W' (⟨rfl, hJ', hk⟩ | ⟨rfl, hJx'⟩)
      · gi_wp2
        exact bodyPost_ret (results_none rfl _ _ _) rfl ⟨⟨_, rfl⟩, .inl hJ'⟩
      · gi_wp2
        exact bodyPost_ret (results_none rfl _ _ _) rfl ⟨⟨_, rfl⟩, .inr ⟨_, hJx'⟩⟩
  · have hdp : 0 < d := Nat.pos_of_ne_zero hd0
    have hdq : ((d : Int) == 0) = false := beq_eq_false_iff_ne.2 (by omega)
    have WK := Lib.hid (c_walk pt d ways w.heap.size w (TV.out.ext HE.out) (Nat.le_refl _))
    obtain ⟨pc, hpc⟩ : ∃ pc, w.heap.size = pc := ⟨_, rfl⟩
    have HPC : Hid (w.heap.size = pc) := hpc
    rw [hpc] at WK
    clear hpc LN hd0
    gi_wp2_with (first
      | (refine ⟨trivial, ?_⟩; gi_at_call 17; refine (callsIn_wide.2 (DP.out _ HE.out)).mono ?_; rintro e w0 ⟨rfl, hw0⟩; obtain rfl := hw0.symm)
      | (refine ⟨trivial, ?_⟩; gi_at_call 7; refine (callsIn_wide.2 (WK.out)).mono ?_; rintro e w1 ⟨rfl, cv1, E1⟩))
    have S1 : Hid (EachSt w0 w pc pt bx J none [] 0 w1) := ⟨Nat.le_of_eq HPC.out, HE.out.size, World.block_lt_of_cell? w ⟨bx, 0, none⟩ hb, ext_trans HE.out E1, keep E1 HB.out, cv1, HJ.out.ext H0.out E1⟩
    clear cv1 E1 WK H0 hb
    by_cases hN : ways.length = 0
    · gi_loopw [] (fun wj => EachSt w0 w pc pt bx J none [] 0 wj) (fun _ => 0)
      case atStart => exact S1.out
      case round =>
        have ST := Lib.hid hrel
        have OP : Hid (Calls Tryz.prog 27 #[.pointer (some ⟨pc, 0, none⟩)] wr fun e w' => e = .returned (.bool false) ∧ Ext wr w') := c_open_no pc pt pc d ways none [] wr ST.out.cur (TV.out.ext ST.out.ext) (by unfold mayOpen; rw [decide_eq_true hN, Bool.not_true, Bool.and_false])
        clear hrel
        gi_wp2_with (refine ⟨trivial, ?_⟩; gi_at_call 27; refine (callsIn_wide.2 (OP.out)).mono ?_; rintro e w2 ⟨rfl, E2⟩)
        have S2 : Hid (EachSt w0 w pc pt bx J none [] 0 w2) := ST.out.keep HJ.out E2
        clear E2
        gi_loopw [] (fun wj => EachSt w0 w pc pt bx J none [] 0 wj) (fun _ => 0)
        case atStart => exact S2.out
        case round =>
          have ST := Lib.hid hrel
          have AT := Lib.hid (c_at pc pt pc none [] wr ST.out.cur)
          rw [List.length_nil] at AT
          clear hrel
          gi_wp2_with (refine ⟨trivial, ?_⟩; gi_at_call 36; refine (callsIn_wide.2 (AT.out)).mono ?_; rintro e w3 ⟨rfl, hw3⟩; obtain rfl := hw3.symm)
          go_end0
          exact ⟨⟨_, rfl⟩, .inl (by rw [hN]; exact ST.out.inv)⟩
    · have hNp : 0 < ways.length := Nat.pos_of_ne_zero hN
      clear hN
      have W0P : Hid (0 < wid ways 0 ways.length) := by
        have := (seg_root ways).ndIn (Nat.le_refl _) hNp
        show 0 < _
        omega
      gi_loopw [] (fun wj => ∃ rb sp, EachSt w0 w pc pt bx J rb sp 0 wj ∧ (sp = [] ∨ (At1 d ways sp 0 ∧ endB sp = false))) (fun wj => d - (rdSp wj pc).length)
      case atStart => exact ⟨none, [], S1.out, .inl rfl⟩
      case round =>
        obtain ⟨rb, sp, hst, hsp⟩ := hrel
        have ST := Lib.hid hst
        have RD : Hid (rdSp wr pc = sp) := hst.cur.rd
        rcases hsp with rfl | ⟨ha, he⟩
        · have OP : Hid (Calls Tryz.prog 27 #[.pointer (some ⟨pc, 0, none⟩)] wr (OpenPost pc pc pt rb [] (0, wid ways 0 ways.length) wr)) := c_open_nil pc pt pc d ways rb wr ST.out.cur (TV.out.ext ST.out.ext) hdp hNp
          clear hst
          gi_wp2_with (refine ⟨trivial, ?_⟩; gi_at_call 27; refine (callsIn_wide.2 (OP.out)).mono ?_; rintro e w2 ⟨rfl, g2, c2, b2, _⟩)
          go_roundw
          case rel => exact ⟨_, _, ST.out.move HJ.out c2 b2, .inr ⟨((DfsSt.first hdp hNp).at1 (by simp)).1, by
            have := W0P.out
            show decide (0 = wid ways 0 ways.length) = false
            exact decide_eq_false (by omega)⟩⟩
          case measure => rw [c2.rd, RD.out]; simp; omega
        · obtain ⟨pre, f, t, A, B, rfl, hc, hcur, hp⟩ := ha
          obtain ⟨g, rfl⟩ : ∃ g, rb = some g := by
            obtain ⟨g, _, e, _⟩ := hst.cur.last
            exact ⟨g, e⟩
          have F := hc.facts HW.out pre f t rfl
          have FF := Lib.hid F
          rw [endB_snoc] at he
          have hft : f < t := by
            have h1 : f ≠ t := of_decide_eq_false he
            have := F.le
            omega
          by_cases hdl : pre.length + 1 < d
          · have OP : Hid (Calls Tryz.prog 27 #[.pointer (some ⟨pc, 0, none⟩)] wr (OpenPost pc pc pt (some g) (pre ++ [(f, t)]) (belowS ways pre.length f) wr)) := c_open pc pt pc g d ways pre f t A B wr ST.out.cur (TV.out.ext ST.out.ext) FF.out hft hdl hd hn
            have DN := Lib.hid (DfsSt.down HW.out hc hcur hp hft hdl)
            have HC := Lib.hid hc
            clear hst hc hcur hp F he
            gi_wp2_with (refine ⟨trivial, ?_⟩; gi_at_call 27; refine (callsIn_wide.2 (OP.out)).mono ?_; rintro e w2 ⟨rfl, g2, c2, b2, _⟩)
            have EN : Hid (endB (pre ++ [(f, t)] ++ [belowS ways pre.length f]) = false) := by
              obtain ⟨⟨pre2, f2, t2, A2, B2, e2, h2, _, _⟩, _⟩ := DN.out.at1 (by simp)
              have F2 := h2.facts HW.out pre2 f2 t2 e2
              obtain ⟨rfl, e3⟩ := snoc_inj e2
              show _ = _
              have hbd := wid_mono ways pre.length FF.out.seg.top
              have hj : f < wid ways pre.length ways.length := by have := FF.out.top; omega
              have hsg := seg_below ways pre.length f hj
              have := hsg.ndIn (Nat.le_refl _) (st_lt ways pre.length (Nat.lt_succ_self f) hj)
              unfold belowS
              rw [endB_snoc]
              exact decide_eq_false (by omega)
            go_roundw
            case rel => exact ⟨_, _, ST.out.move HJ.out c2 b2, .inr ⟨(DN.out.at1 (by simp)).1, EN.out⟩⟩
            case measure => rw [c2.rd, RD.out]; simp; omega
          · have hdd : d = pre.length + 1 := by have := F.dep; omega
            have OP : Hid (Calls Tryz.prog 27 #[.pointer (some ⟨pc, 0, none⟩)] wr fun e w' => e = .returned (.bool false) ∧ Ext wr w') := c_open_no pc pt pc d ways (some g) (pre ++ [(f, t)]) wr ST.out.cur (TV.out.ext ST.out.ext) (by unfold mayOpen; rw [show (pre ++ [(f, t)]).length = pre.length + 1 by simp, decide_eq_true hdd.symm]; simp)
            have HA1 : Hid (At1 d ways (pre ++ [(f, t)]) 0) := ⟨pre, f, t, A, B, rfl, hc, hcur, hp⟩
            clear hst hc hcur hp F he FF hft hdl hdd
            gi_wp2_with (refine ⟨trivial, ?_⟩; gi_at_call 27; refine (callsIn_wide.2 (OP.out)).mono ?_; rintro e w2 ⟨rfl, E2⟩)
            have S2 := Lib.hid (ST.out.keep HJ.out E2)
            clear E2
            obtain ⟨sp0, hsp0⟩ : ∃ sp0, pre ++ [(f, t)] = sp0 := ⟨_, rfl⟩
            rw [hsp0] at S2 HA1
            clear hsp0 ST OP RD S1
            gi_loopw [] (fun wj => ∃ rb sp cur, EachSt w0 w pc pt bx J rb sp cur wj ∧ ((sp = [] ∧ cur = ways.length) ∨ At1 d ways sp cur)) (fun wj => togo d ways (rdSp wj pc))
            case atStart => exact ⟨some g, sp0, 0, S2.out, .inr HA1.out⟩
            case round =>
              obtain ⟨rb, sp, cur, hst, hsp⟩ := hrel
              have ST := Lib.hid hst
              have RD : Hid (rdSp wr pc = sp) := hst.cur.rd
              rcases hsp with ⟨rfl, rfl⟩ | ha
              · have AT := Lib.hid (c_at pc pt pc rb [] wr ST.out.cur)
                rw [List.length_nil] at AT
                clear hst
                gi_wp2_with (refine ⟨trivial, ?_⟩; gi_at_call 36; refine (callsIn_wide.2 (AT.out)).mono ?_; rintro e w3 ⟨rfl, hw3⟩; obtain rfl := hw3.symm)
                go_end0
                exact ⟨⟨_, rfl⟩, .inl ST.out.inv⟩
              · have HA := Lib.hid ha
                obtain ⟨pre, f, t, A, B, rfl, hc, hcur, hp⟩ := ha
                obtain ⟨g, rfl⟩ : ∃ g, rb = some g := by
                  obtain ⟨g, _, e, _⟩ := hst.cur.last
                  exact ⟨g, e⟩
                have F := hc.facts HW.out pre f t rfl
                have FF := Lib.hid F
                have HC := Lib.hid hc
                have wbt := wid_mono ways pre.length F.seg.top
                have wle := wid_le ways pre.length ways.length
                have htm : t ≤ 1000000 := by have := F.top; omega
                have hk0 : (0 : Int) < ((pre.length + 1 : Nat) : Int) := by omega
                have AT : Hid (∀ W, Ext wr W → Calls Tryz.prog 36 #[.pointer (some ⟨pc, 0, none⟩)] W fun e w' => e = .returned (.int .i64 ((pre.length + 1 : Nat) : Int)) ∧ w' = W) := fun W hW => by
                  have := c_at pc pt pc (some g) (pre ++ [(f, t)]) W (ST.out.cur.ext hW)
                  rwa [show (pre ++ [(f, t)]).length = pre.length + 1 by simp] at this
                obtain ⟨k1, hk1⟩ : ∃ k1, pre.length + 1 = k1 := ⟨_, rfl⟩
                have HK1 : Hid (pre.length + 1 = k1) := hk1
                rw [hk1] at AT hk0
                have AE : Hid (∀ W, Ext wr W → Calls Tryz.prog 40 #[.pointer (some ⟨pc, 0, none⟩)] W fun e w' => e = .returned (.bool (decide (f = t))) ∧ Ext wr w') := fun W hW => (c_atEnd pc pt pc (some g) (pre ++ [(f, t)]) W (ST.out.cur.ext hW)).mono fun e w' ⟨r1, q, r2⟩ => ⟨by rw [r1, endB_snoc], by rw [r2]; exact ext_drewN hW q⟩
                by_cases hft : f = t
                · subst hft
                  rw [decide_eq_true rfl] at AE
                  have UP : Hid (∀ W, Ext wr W → Calls Tryz.prog 29 #[.pointer (some ⟨pc, 0, none⟩)] W fun e w' => e = .returned (.bool true) ∧ CurV w' pc pc pt (some g) pre ∧ ButS (CurB pc (some g)) W w') := fun W hW => c_up pc pt pc g pre f f W (ST.out.cur.ext hW)
                  rcases pre.eq_nil_or_concat with rfl | ⟨pre0, ⟨f0, t0⟩, e⟩
                  · have NX : Hid (∀ W, CurV W pc pc pt (some g) [] → Calls Tryz.prog 31 #[.pointer (some ⟨pc, 0, none⟩)] W fun e w' => e = .returned (.bool false) ∧ Ext W w') := fun W hW => c_next_no pc pt pc (some g) [] W hW (.inl rfl)
                    have hN : cur = ways.length := DfsSt.all hc hcur
                    subst hN
                    clear hst hc hcur hp F wbt wle hk1
                    gi_wp2_with (first
                      | (refine ⟨trivial, ?_⟩; gi_at_call 36; refine (callsIn_wide.2 (AT.out _ (Below.refl _ _))).mono ?_; rintro e w3 ⟨rfl, hw3⟩; obtain rfl := hw3.symm)
                      | (refine ⟨trivial, ?_⟩; gi_at_call 40; refine (callsIn_wide.2 (AE.out _ (Below.refl _ _))).mono ?_; rintro e w4 ⟨rfl, E4⟩)
                      | (refine ⟨trivial, ?_⟩; gi_at_call 29; refine (callsIn_wide.2 (UP.out _ E4)).mono ?_; rintro e w5 ⟨rfl, c5, b5⟩)
                      | (refine ⟨trivial, ?_⟩; gi_at_call 31; refine (callsIn_wide.2 (NX.out _ c5)).mono ?_; rintro e w6 ⟨rfl, E6⟩))
                    go_roundw
                    case rel => exact ⟨_, [], _, ((ST.out.keep HJ.out E4).move HJ.out c5 b5).keep HJ.out E6, .inl ⟨rfl, rfl⟩⟩
                    case measure =>
                      rw [(c5.ext E6).rd, RD.out]
                      have := HA.out.bound
                      unfold togo
                      rw [if_pos rfl, if_neg (by simp)]
                      omega
                  · rw [List.concat_eq_append] at e
                    subst e
                    obtain ⟨DN, hlt0⟩ := DfsSt.up HW.out hc hcur hp
                    have DNh := Lib.hid DN
                    have wb0 : t0 ≤ 1000000 := by
                      rcases hc.pop (pre0 ++ [(f0, t0)]) (f, f) rfl with e | ⟨pre1, f1, t1, A0, B0, e, _, h0, _⟩
                      · simp at e
                      · obtain ⟨rfl, e2⟩ := snoc_inj e
                        cases e2
                        have F0 := h0.facts HW.out pre0 f0 t0 rfl
                        have q1 := F0.top
                        have q2 := wid_mono ways pre0.length F0.seg.top
                        have q3 := wid_le ways pre0.length ways.length
                        omega
                    have NX : Hid (∀ W, CurV W pc pc pt (some g) (pre0 ++ [(f0, t0)]) → Calls Tryz.prog 31 #[.pointer (some ⟨pc, 0, none⟩)] W fun e w' => e = .returned (.bool (!decide (f0 + 1 = t0))) ∧ CurV w' pc pc pt (some g) (pre0 ++ [(f0 + 1, t0)]) ∧ ButS (CurB pc (some g)) W w') := fun W hW => c_next pc pt pc g pre0 f0 t0 W hW hlt0 (by omega)
                    clear hst hc hcur hp F wbt wle DN hk1
                    gi_wp2_with (first
                      | (refine ⟨trivial, ?_⟩; gi_at_call 36; refine (callsIn_wide.2 (AT.out _ (Below.refl _ _))).mono ?_; rintro e w3 ⟨rfl, hw3⟩; obtain rfl := hw3.symm)
                      | (refine ⟨trivial, ?_⟩; gi_at_call 40; refine (callsIn_wide.2 (AE.out _ (Below.refl _ _))).mono ?_; rintro e w4 ⟨rfl, E4⟩)
                      | (refine ⟨trivial, ?_⟩; gi_at_call 29; refine (callsIn_wide.2 (UP.out _ E4)).mono ?_; rintro e w5 ⟨rfl, c5, b5⟩)
                      | (refine ⟨trivial, ?_⟩; gi_at_call 31; refine (callsIn_wide.2 (NX.out _ c5)).mono ?_; rintro e w6 ⟨rfl, c6, b6⟩))
                    go_roundw
                    case rel => exact ⟨_, _, cur, ((ST.out.keep HJ.out E4).move HJ.out c5 b5).move HJ.out c6 b6, .inr (DNh.out.at1 (by simp)).1⟩
                    case measure =>
                      rw [c6.rd, RD.out]
                      exact togo_less HA.out DNh.out (by simp)
                · have hlt : f < t := by have := F.le; omega
                  rw [decide_eq_false hft] at AE
                  by_cases hdp2 : pre.length + 1 < d
                  · have OP : Hid (∀ W, Ext wr W → Calls Tryz.prog 27 #[.pointer (some ⟨pc, 0, none⟩)] W (OpenPost pc pc pt (some g) (pre ++ [(f, t)]) (belowS ways pre.length f) W)) := fun W hW => c_open pc pt pc g d ways pre f t A B W (ST.out.cur.ext hW) (TV.out.ext (ext_trans ST.out.ext hW)) FF.out hlt hdp2 hd hn
                    have DN := Lib.hid (DfsSt.down HW.out hc hcur hp hlt hdp2)
                    have hkd : (k1 : Int) < (d : Int) := by omega
                    clear hst hc hcur hp F wbt wle hk1
                    gi_wp2_with (first
                      | (refine ⟨trivial, ?_⟩; gi_at_call 36; refine (callsIn_wide.2 (AT.out _ (Below.refl _ _))).mono ?_; rintro e w3 ⟨rfl, hw3⟩; obtain rfl := hw3.symm)
                      | (refine ⟨trivial, ?_⟩; gi_at_call 40; refine (callsIn_wide.2 (AE.out _ (Below.refl _ _))).mono ?_; rintro e w4 ⟨rfl, E4⟩))
                    have hb4 := keep E4 ST.out.box
                    have mixed : Tryz.prog.follows .mixedOrders = true := by kernel_rfl
                    gi_region_with_o (first
                      | (refine ⟨trivial, ?_⟩; gi_at_call 36; refine (callsIn_wide.2 (AT.out _ (ext_drew E4))).mono ?_; rintro e w5 ⟨rfl, hw5⟩; obtain rfl := hw5.symm)
                      | (refine ⟨trivial, ?_⟩; gi_at_call 17; refine (callsIn_wide.2 (DP.out _ (ext_trans ST.out.ext (ext_drew E4)))).mono ?_; rintro e w6 ⟨rfl, hw6⟩; obtain rfl := hw6.symm))
                    all_goals
                      gi_wp2_with (refine ⟨trivial, ?_⟩; gi_at_call 27; refine (callsIn_wide.2 (OP.out _ (ext_drew E4))).mono ?_; rintro e w7 ⟨rfl, g7, c7, b7, _⟩)
                      go_roundw
                      case rel => exact ⟨_, _, cur, (ST.out.keep HJ.out (ext_drew E4)).move HJ.out c7 b7, .inr (DN.out.at1 (by simp)).1⟩
                      case measure =>
                        rw [c7.rd, RD.out]
                        exact togo_less HA.out DN.out (by simp)
                  · have hdd : d = k1 := by have := F.dep; omega
                    have hdd2 : d = pre.length + 1 := by omega
                    obtain ⟨o1, o2, o3, o4, o5⟩ := DfsSt.on HW.out hc hcur hp hlt hdd2
                    have DN := Lib.hid o5
                    have hkd : ¬ (k1 : Int) < (d : Int) := by omega
                    have KS : Hid (∀ W, Ext wr W → Calls Tryz.prog 35 #[.pointer (some ⟨pc, 0, none⟩)] W fun e w' => ∃ a n c, e = .returned (.slice a n c) ∧ w'.ownsRow W.heap.size 9 1 (.slice a n c) n ((wayAt ways cur).map Value.string) ∧ Ext W w') := fun W hW => by
                      have := c_keys pc pt pc d ways (some g) (pre ++ [(f, t)]) A B W (ST.out.cur.ext hW) (TV.out.ext (ext_trans ST.out.ext hW)) HW.out HC.out (by rw [endB_snoc]; simp; omega) hd (by rw [List.length_append, List.length_singleton]; omega)
                      rw [o3] at this
                      exact this.mono fun e w' ⟨a, n, c, r1, r2, r3, r4⟩ => ⟨a, n, c, r1, by rw [r4]; rw [r4] at r2; exact r2, r3⟩
                    have NX : Hid (∀ W, CurV W pc pc pt (some g) (pre ++ [(f, t)]) → Calls Tryz.prog 31 #[.pointer (some ⟨pc, 0, none⟩)] W fun e w' => e = .returned (.bool (!decide (f + 1 = t))) ∧ CurV w' pc pc pt (some g) (pre ++ [(f + 1, t)]) ∧ ButS (CurB pc (some g)) W w') := fun W hW => c_next pc pt pc g pre f t W hW hlt htm
                    have WA : Hid (ways[cur]? = some (wayAt ways cur)) := (HW.out.at o2).1
                    obtain ⟨rr, hrr⟩ : ∃ rr, wayAt ways cur = rr := ⟨_, rfl⟩
                    rw [hrr] at KS WA
                    clear hst hc hcur hp F wbt wle hk1 o1 o2 o3 o4 o5 hdd hdd2 hrr
                    gi_wp2_with (first
                      | (refine ⟨trivial, ?_⟩; gi_at_call 36; refine (callsIn_wide.2 (AT.out _ (Below.refl _ _))).mono ?_; rintro e w3 ⟨rfl, hw3⟩; obtain rfl := hw3.symm)
                      | (refine ⟨trivial, ?_⟩; gi_at_call 40; refine (callsIn_wide.2 (AE.out _ (Below.refl _ _))).mono ?_; rintro e w4 ⟨rfl, E4⟩))
                    have hb4 := keep E4 ST.out.box
                    have mixed : Tryz.prog.follows .mixedOrders = true := by kernel_rfl
                    gi_region_with_o (first
                      | (refine ⟨trivial, ?_⟩; gi_at_call 36; refine (callsIn_wide.2 (AT.out _ (ext_drew E4))).mono ?_; rintro e w5 ⟨rfl, hw5⟩; obtain rfl := hw5.symm)
                      | (refine ⟨trivial, ?_⟩; gi_at_call 17; refine (callsIn_wide.2 (DP.out _ (ext_trans ST.out.ext (ext_drew E4)))).mono ?_; rintro e w6 ⟨rfl, hw6⟩; obtain rfl := hw6.symm))
                    all_goals
                      gi_wp2_with (first
                        | (refine ⟨trivial, ?_⟩; gi_at_call 35; refine (callsIn_wide.2 (KS.out _ (ext_drew E4))).mono ?_; rintro e w8 ⟨a8, n8, c8, rfl, o8, E8⟩; have S8 := Lib.hid (ST.out.keep HJ.out (ext_trans (ext_drew E4) E8)); obtain ⟨fn, tmps, assign, body, hy, hR⟩ := HY.out cur rr _ _ _ _ _ WA.out (ST.out.keep HJ.out (ext_drew E4)).inv E8 o8; clear o8 E8))
                      refine hR.mono ?_
                      rintro e W' (⟨rfl, hJ', hk⟩ | ⟨rfl, hJx'⟩)
                      · have S9 := Lib.hid (S8.out.round HX.out hJ' hk)
                        clear hJ' hk
                        gi_wp2_with (refine ⟨trivial, ?_⟩; gi_at_call 31; refine (callsIn_wide.2 (NX.out _ S9.out.cur)).mono ?_; rintro e w9 ⟨rfl, c9, b9⟩)
                        go_roundw
                        case rel => exact ⟨_, _, cur + 1, S9.out.move HJ.out c9 b9, .inr (DN.out.at1 (by simp)).1⟩
                        case measure =>
                          rw [c9.rd, RD.out]
                          exact togo_less HA.out DN.out (by simp)
                      · gi_wp2
                        exact bodyPost_ret (results_none rfl _ _ _) rfl ⟨⟨_, rfl⟩, .inr ⟨_, hJx'⟩⟩
end Go.Proofs.YthjpfplebbnbpaaGreat
