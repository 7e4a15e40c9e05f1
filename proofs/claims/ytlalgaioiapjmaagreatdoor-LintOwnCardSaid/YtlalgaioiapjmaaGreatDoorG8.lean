/- The walk of schema.arities.rule. slices.Index and slices.Contains at texts; the walk of schema.bound: the variables of the positive atoms. The walks of schema.breach and the closures of schema.Safe. -/
import Derived.Test.YtlalgaioiapjmaaGreatDoorG2
import Derived.Test.YtlalgaioiapjmaaGreatDoorG7
namespace Go.Proofs.YtlalgaioiapjmaaGreatDoor
open Go.ChangeShapes Go.WideShapes Go.ChangeAt Go.RowKit
open K (AL fitA fitU usesR usesB Rule)
attribute [local go_sem] Oper.semAt_some
theorem putObj_but {S : Nat → Prop} (W : World) {l : Nat} (o : Obj) (h : S l) : ButS S W (W.putObj l o) :=
  ⟨rfl, rfl, rfl, Nat.le_of_eq (by simp [World.putObj]), fun x _ hn => World.putObj_heap_other (fun e => hn (by rw [e]; exact h))⟩
theorem ButS.after {S T : Nat → Prop} {w x z : World} (h : ButS S w x) (k : ButS T x z) (hs : ∀ c, c < w.heap.size → T c → S c) : ButS S w z :=
  ⟨k.os.trans h.os, k.tape.trans h.tape, k.output.trans h.output, Nat.le_trans h.size k.size, fun c hc hn => (k.block c (Nat.lt_of_lt_of_le hc h.size) (fun q => hn (hs c hc q))).trans (h.block c hc hn)⟩
/-- Between two rounds of the loop over what a rule uses. -/
structure RuSt (r : Rule) (ah : Option Addr) (nh ch : Nat) (ab : Option Addr) (nb cb : Nat) (w : World) (b D : Nat) (rc : Obj) (res : Bool) (a : AL Nat) (W : World) : Prop where
  but : ButS (fun x => x = b) w W
  map : AMap W b a
  c0 : Blk W w.heap.size 142 [.map (some b)]
  c1 : W.cell? ⟨w.heap.size + 3, 0, none⟩ = some (.string r.head.pred) ∧ W.cell? ⟨w.heap.size + 3, 1, none⟩ = some (.slice ah nh ch) ∧ W.cell? ⟨w.heap.size + 3, 2, none⟩ = some (.slice ab nb cb)
  c2 : Blk W (w.heap.size + 2) 4 [.bool res]
  rc : W.heap[D + 1]? = some rc
  df : W.heap[D]? = some (.deferred (some []))
  sep : b < w.heap.size ∧ w.heap.size + 3 < D
section
variable {r : Rule} {ah : Option Addr} {nh ch : Nat} {ab : Option Addr} {nb cb : Nat} {w : World} {b D : Nat} {rc : Obj} {res : Bool} {a : AL Nat} {W W' : World}
theorem RuSt.ext (h : RuSt r ah nh ch ab nb cb w b D rc res a W) (e : Ext W W') : RuSt r ah nh ch ab nb cb w b D rc res a W' :=
  ⟨h.but.ext e, h.map.ext e, h.c0.ext e, ⟨keep e h.c1.1, keep e h.c1.2.1, keep e h.c1.2.2⟩, h.c2.ext e, (e.block _ (Array.getElem?_eq_some_iff.1 h.rc).1).trans h.rc, (e.block _ (Array.getElem?_eq_some_iff.1 h.df).1).trans h.df, h.sep⟩
theorem RuSt.fit (h : RuSt r ah nh ch ab nb cb w b D rc res a W) {a' : AL Nat} (e : ButS (fun x => x = b) W W') (hm : AMap W' b a') : RuSt r ah nh ch ab nb cb w b D rc res a' W' := by
  have hs := h.sep
  exact ⟨h.but.trans e, hm, h.c0.but e (by omega), ⟨e.cell (by omega) h.c1.1, e.cell (by omega) h.c1.2.1, e.cell (by omega) h.c1.2.2⟩, h.c2.but e (by omega), (e.block _ (Array.getElem?_eq_some_iff.1 h.rc).1 (by omega)).trans h.rc, (e.block _ (Array.getElem?_eq_some_iff.1 h.df).1 (by omega)).trans h.df, h.sep⟩
theorem RuSt.turn (h : RuSt r ah nh ch ab nb cb w b D rc res a W) (rc' : Obj) : RuSt r ah nh ch ab nb cb w b D rc' res a (W.putObj (D + 1) rc') := by
  have hs := h.sep
  have e : ButS (fun x => x = D + 1) W (W.putObj (D + 1) rc') := putObj_but W rc' rfl
  exact ⟨h.but.after e (by omega), h.map.but e (by omega), h.c0.but e (by omega), ⟨e.cell (by omega) h.c1.1, e.cell (by omega) h.c1.2.1, e.cell (by omega) h.c1.2.2⟩, h.c2.but e (by omega), World.putObj_heap_same (Array.getElem?_eq_some_iff.1 h.rc).1, (e.block _ (Array.getElem?_eq_some_iff.1 h.df).1 (by omega)).trans h.df, h.sep⟩
theorem RuSt.tell (h : RuSt r ah nh ch ab nb cb w b D rc res a W) (res' : Bool) : RuSt r ah nh ch ab nb cb w b D rc res' a (W.setCell ⟨w.heap.size + 2, 0, none⟩ (.bool res')) := by
  have hs := h.sep
  have e : ButS (fun x => x = w.heap.size + 2) W (W.setCell ⟨w.heap.size + 2, 0, none⟩ (.bool res')) := (ButS.refl (fun x => x = w.heap.size + 2) W).set (.inl rfl) _ _
  exact ⟨h.but.after e (by omega), h.map.but e (by omega), h.c0.but e (by omega), ⟨e.cell (by omega) h.c1.1, e.cell (by omega) h.c1.2.1, e.cell (by omega) h.c1.2.2⟩, h.c2.set 0 (.bool res'), (e.block _ (Array.getElem?_eq_some_iff.1 h.rc).1 (by omega)).trans h.rc, (e.block _ (Array.getElem?_eq_some_iff.1 h.df).1 (by omega)).trans h.df, h.sep⟩
theorem RuSt.shut (h : RuSt r ah nh ch ab nb cb w b D rc res a W) : AMap (W.putObj D (.deferred none)) b a ∧ ButS (fun x => x = b) w (W.putObj D (.deferred none)) ∧ Blk (W.putObj D (.deferred none)) (w.heap.size + 2) 4 [.bool res] := by
  have hs := h.sep
  have e : ButS (fun x => x = D) W (W.putObj D (.deferred none)) := putObj_but W _ rfl
  exact ⟨h.map.but e (by omega), h.but.after e (by omega), h.c2.but e (by omega)⟩
end
theorem fitU_step (a : AL Nat) (us : List (ByteArray × Nat)) (u : ByteArray × Nat) (k : Nat) (a' : AL Nat) (hu : us[k]? = some u) (h : fitU a us = fitU a' (us.drop k)) :
    fitU a us = if (fitA a' u.1 u.2).2 = true then fitU (fitA a' u.1 u.2).1 (us.drop (k + 1)) else ((fitA a' u.1 u.2).1, false) := by
  have hk := (List.getElem?_eq_some_iff.1 hu).1
  have e : us.drop k = u :: us.drop (k + 1) := by
    rw [List.drop_eq_getElem_cons hk, (List.getElem?_eq_some_iff.1 hu).2]
  rw [h, e]
  obtain ⟨p, n⟩ := u
  rfl
theorem usesR_ok {W : World} {r : Rule} {ah : Option Addr} {nh ch : Nat} {ab : Option Addr} {nb cb : Nat} (h : K.RuleV W r ah nh ch ab nb cb) {u : ByteArray × Nat} (hu : u ∈ usesR r) : okS u.1 := by
  rcases List.mem_cons.1 hu with rfl | hu
  · exact h.pred
  · unfold usesB at hu
    obtain ⟨l, hl, rfl⟩ := List.mem_map.1 hu
    obtain ⟨hl, _⟩ := List.mem_filter.1 hl
    obtain ⟨i, hi⟩ := List.mem_iff_getElem?.1 hl
    have hlt := (List.getElem?_eq_some_iff.1 hi).1
    obtain ⟨x, eb, eo, hx, _, a, n, cap, c0, c1, c2, c3, c4, c5, c6, c7, ht, _, hp, _⟩ := h.body.2.at (show i < nb by have := h.body.2.1; omega)
    rw [hi] at hx
    cases hx
    exact hp
theorem res_rule (tmps : Array Value) (p4 : Nat) (v4 : Value) (W : World) (h4 : tmps.getD 4 undef = .pointer (some ⟨p4, 0, none⟩)) (c4 : W.cell? ⟨p4, 0, none⟩ = some v4) : (results Tryz.f92 tmps).run Tryz.prog W = .ok v4 W := by
  have e4 : tmps[4]?.getD undef = .pointer (some ⟨p4, 0, none⟩) := by rw [← h4]; simp
  simp only [results, Tryz.f92]
  go_simp
set_option maxRecDepth 100000 in
set_option maxHeartbeats 4000000 in
theorem c_rule (r : Rule) (ah : Option Addr) (nh ch : Nat) (ab : Option Addr) (nb cb : Nat) (a : AL Nat) (b : Nat) (w0 w : World) (hr : K.RuleV w0 r ah nh ch ab nb cb) (hE : Ext w0 w) (hb : w0.heap.size ≤ b) (hm : AMap w b a) :
    Calls Tryz.prog 92 #[.map (some b), .agg #[.string r.head.pred, .slice ah nh ch, .slice ab nb cb]] w fun e w' => e = .returned (.bool (fitU a (usesR r)).2) ∧ AMap w' b (fitU a (usesR r)).1 ∧ ButS (fun x => x = b) w w' := by
  have HR := Lib.hid hr
  have HE := Lib.hid hE
  have HM := Lib.hid hm
  clear hr hE hm
  have USE := Lib.hid (c_uses r ah nh ch ab nb cb)
  refine (callsIn_wide (n := 5)).1 ?_
  refine callsIn_of_wp_marks Tryz.func92 rfl trivial ?_
  simp only [Tryz.ntmps92, List.size_toArray, List.length_cons, List.length_nil, Nat.reduceAdd, Nat.reduceSub, Array.replicate_succ, Array.replicate_zero, List.push_toArray, List.append_toArray, List.nil_append, List.cons_append]
  obtain ⟨w1, hw1⟩ : ∃ w1, w1 = ((w.alloc (.cells #[.map (some b)] 142)).alloc (.cells #[.string r.head.pred, .slice ah nh ch, .slice ab nb cb] 50)).alloc (.cells #[.bool false] 4) := ⟨_, rfl⟩
  gi_wp2_with (first
    | (refine ⟨trivial, ?_⟩; gi_at_call 116; rw [← hw1]; refine (callsIn_wide.2 (USE.out _)).mono ?_; rintro e w2 ⟨rfl, E2, d0, d1, d2⟩))
  have sz1 : w1.heap.size = w.heap.size + 3 := by rw [hw1]; simp
  have E1 : Ext w w1 := by rw [hw1]; exact ext_alloc (ext_alloc (ext_alloc (Below.refl _ _) _) _) _
  have q0 : Blk w1 w.heap.size 142 [.map (some b)] := by
    rw [hw1]
    exact ((Blk.new w [.map (some b)] 142).ext (ext_alloc (Below.refl _ _) _)).ext (ext_alloc (Below.refl _ _) _)
  have q2 : Blk w1 (w.heap.size + 2) 4 [.bool false] := by
    rw [hw1]
    have := Blk.new ((w.alloc (.cells #[.map (some b)] 142)).alloc (.cells #[.string r.head.pred, .slice ah nh ch, .slice ab nb cb] 50)) [.bool false] 4
    simpa using this
  rw [sz1] at d0 d1 d2
  have hD2 : w.heap.size + 3 < w2.heap.size := World.block_lt_of_cell? w2 ⟨w.heap.size + 3, 0, none⟩ d0
  clear hw1
  refine range_of (gf := 147) (lb := #[.pointer (some ⟨w.heap.size + 3, 0, none⟩)]) (by omega) (by rw [← sz1]; rfl) (enters_of Tryz.func147 (by kernel_rfl) rfl) ?_
  intro fn
  obtain ⟨D, hD⟩ : ∃ D, w2.heap.size = D := ⟨_, rfl⟩
  rw [hD]
  rw [hD] at hD2
  generalize hrec : loopOf fn _ _ _ _ D = rec
  obtain ⟨w4, hw4⟩ : ∃ w4, (w2.alloc (.deferred (some []))).alloc (.loop (rec .ready none)) = w4 := ⟨_, rfl⟩
  rw [hw4]
  have hl4 : w4.heap[D + 1]? = some (.loop (rec .ready none)) := by
    rw [← hw4]
    have := World.alloc_heap_new (w2.alloc (.deferred (some []))) (.loop (rec .ready none))
    rwa [World.size_alloc, hD] at this
  have hD4 : w4.heap[D]? = some (.deferred (some [])) := by
    rw [← hw4, ← hD]
    exact (Below.heap_alloc _ _ _ (by simp)).trans (World.alloc_heap_new w2 _)
  have E4 : Ext w2 w4 := by rw [← hw4]; exact ext_alloc (ext_alloc (Below.refl _ _) _) _
  have E24 := ext_trans E2 E4
  have ST0 : RuSt r ah nh ch ab nb cb w b D (.loop (rec .ready none)) false a w4 :=
    ⟨(ButS.refl _ _).ext (ext_trans E1 E24), HM.out.ext (ext_trans E1 E24), q0.ext E24, ⟨keep E4 d0, keep E4 d1, keep E4 d2⟩, q2.ext E24, hl4, hD4, HM.out.lt, hD2⟩
  clear hw4 hl4 hD4 E4 E24 q0 q2 d0 d1 d2 hD E1 E2 hD2
  obtain ⟨us, hus⟩ : ∃ us, usesR r = us := ⟨_, rfl⟩
  obtain ⟨J, je⟩ : ∃ J : Nat → World → Prop, ∀ k W, J k W ↔ ∃ a', RuSt r ah nh ch ab nb cb w b D (.loop (rec .ready none)) false a' W ∧ fitU a us = fitU a' (us.drop k) := ⟨_, fun _ _ => Iff.rfl⟩
  obtain ⟨Jx, jxe⟩ : ∃ J : Nat → World → Prop, ∀ k W, J k W ↔ RuSt r ah nh ch ab nb cb w b D (.loop (rec .done (some .ret))) false (fitU a us).1 W ∧ (fitU a us).2 = false := ⟨_, fun _ _ => Iff.rfl⟩
  have JE := Lib.hid je
  have JXE := Lib.hid jxe
  have HUS := Lib.hid hus
  clear je jxe hus
  have UJ : UsesJ r ah nh ch ab nb cb (w.heap.size + 3) (D + 1) w0 J Jx := by
    refine ⟨?at_, ?ext, ?yield⟩
    case at_ =>
      intro k W hj
      obtain ⟨a', st, _⟩ := (JE.out k W).1 hj
      exact ⟨ext_of_but HE.out st.but (fun c hc q => by omega), st.c1⟩
    case ext =>
      intro k W W' hj e
      obtain ⟨a', st, hq⟩ := (JE.out k W).1 hj
      exact (JE.out k W').2 ⟨a', st.ext e, hq⟩
    case yield =>
      intro k u W hu hj
      rw [HUS.out] at hu
      obtain ⟨a', st, hq⟩ := (JE.out k W).1 hj
      have FS := Lib.hid (fitU_step a us u k a' hu hq)
      have hk : okS u.1 := usesR_ok HR.out (by rw [HUS.out]; exact List.mem_of_getElem? hu)
      have hl' := st.rc
      rw [← hrec] at hl'
      refine round_of hl' rfl ?_
      rw [hrec]
      obtain ⟨Wb, hWb⟩ : ∃ Wb, W.putObj (D + 1) (.loop (rec .busy none)) = Wb := ⟨_, rfl⟩
      have stb := st.turn (.loop (rec .busy none))
      rw [hWb] at stb ⊢
      have FT := Lib.hid (c_fits a' b u.1 u.2 Wb stb.map hk)
      have hc0 : Wb.cell? ⟨w.heap.size, 0, none⟩ = some (.map (some b)) := stb.c0.cell rfl
      have STB := Lib.hid stb
      have FXQ : Hid (∀ q : Bool, (fitA a' u.1 u.2).2 = q → fitU a us = if q = true then fitU (fitA a' u.1 u.2).1 (us.drop (k + 1)) else ((fitA a' u.1 u.2).1, false)) := fun q hq => by
        have := FS.out
        rwa [hq] at this
      obtain ⟨q, hq7⟩ : ∃ q, (fitA a' u.1 u.2).2 = q := ⟨_, rfl⟩
      have FQ := Lib.hid (FXQ.out q hq7)
      rw [hq7] at FT
      obtain ⟨a7, ha7⟩ : ∃ a7, (fitA a' u.1 u.2).1 = a7 := ⟨_, rfl⟩
      rw [ha7] at FT FQ
      clear hl' hWb stb st hq hj hu hk FS FXQ hq7 ha7
      cases q with
      | true =>
        gi_wp2_with (refine ⟨trivial, ?_⟩; gi_at_call 117; refine (CallsIn.inRound (D + 1) (callsIn_wide.2 FT.out)).mono ?_; rintro e w7 ⟨rfl, m7, b7⟩)
        have s7 := STB.out.fit b7 m7
        exact ⟨s7.rc, .inl ⟨rfl, (JE.out _ _).2 ⟨_, s7.turn _, FQ.out⟩⟩⟩
      | false =>
        gi_wp2_with (refine ⟨trivial, ?_⟩; gi_at_call 117; refine (CallsIn.inRound (D + 1) (callsIn_wide.2 FT.out)).mono ?_; rintro e w7 ⟨rfl, m7, b7⟩; have s7 := STB.out.fit b7 m7; have hc2 : w7.cell? ⟨w.heap.size + 1 + 1, 0, none⟩ = some (.bool false) := s7.c2.cell rfl; have hf2 : w7.frozen? ⟨w.heap.size + 1 + 1, 0, none⟩ = false := s7.c2.free 0; have S7 := Lib.hid s7; clear s7 m7 b7)
        have s8 := S7.out.tell false
        have e9 : fitU a us = (a7, false) := by simpa using FQ.out
        exact ⟨s8.rc, .inr ⟨rfl, k, (JXE.out _ _).2 ⟨by rw [e9]; exact s8.turn _, by rw [e9]⟩⟩⟩
  refine CallsIn.mono (c_uses1 r ah nh ch ab nb cb (w.heap.size + 3) (D + 1) w0 w4 HR.out J Jx UJ ((JE.out 0 w4).2 ⟨a, ST0, rfl⟩)) ?_
  rintro e W ⟨hv, hq⟩
  refine ⟨hv, ?_⟩
  rcases hq with hq | ⟨k, hq⟩
  · rw [HUS.out] at hq
    obtain ⟨a', st, hq⟩ := (JE.out _ _).1 hq
    have e9 : fitU a us = (a', true) := by rw [hq, List.drop_length]; rfl
    refine ⟨.ready, none, (fun h => by cases h), st.rc, .inl ⟨rfl, ?_⟩⟩
    obtain ⟨Wf, hWf⟩ : ∃ Wf, W.putObj (D + 1) (.loop (rec .exhausted none)) = Wf := ⟨_, rfl⟩
    have stf := st.turn (.loop (rec .exhausted none))
    rw [hWf] at stf ⊢
    have hc2 : Wf.cell? ⟨w.heap.size + 1 + 1, 0, none⟩ = some (.bool false) := stf.c2.cell rfl
    have hf2 : Wf.frozen? ⟨w.heap.size + 1 + 1, 0, none⟩ = false := stf.c2.free 0
    have s8 := Lib.hid (stf.tell true)
    have E9 := Lib.hid e9
    clear stf st hq hWf e9 hv
    gi_wp2
    obtain ⟨z1, z2, z3⟩ := s8.out.shut
    refine ⟨by simp, .inl ⟨_, _, rfl, run_takeDeferred s8.out.df, ?_⟩⟩
    refine ⟨_, res_rule _ (w.heap.size + 2) _ _ rfl (z3.cell rfl), ?_, ?_, ?_⟩
    · rw [HUS.out, E9.out]
    · rw [HUS.out, E9.out]; exact z1
    · exact z2
  · obtain ⟨st, hq⟩ := (JXE.out _ _).1 hq
    refine ⟨.done, some .ret, (fun h => by cases h), st.rc, .inr ⟨_, rfl, ?_⟩⟩
    obtain ⟨Wf, hWf⟩ : ∃ Wf, W.putObj (D + 1) (.loop (rec .exhausted (some .ret))) = Wf := ⟨_, rfl⟩
    have stf := st.turn (.loop (rec .exhausted (some .ret)))
    rw [hWf] at stf ⊢
    have hc2 : Wf.cell? ⟨w.heap.size + 1 + 1, 0, none⟩ = some (.bool false) := stf.c2.cell rfl
    have s8 := Lib.hid stf
    have E9 := Lib.hid hq
    clear stf st hq hWf hv
    gi_wp2
    obtain ⟨z1, z2, z3⟩ := s8.out.shut
    refine ⟨by simp, .inl ⟨_, _, rfl, run_takeDeferred s8.out.df, ?_⟩⟩
    refine ⟨_, res_rule _ (w.heap.size + 2) _ _ rfl (z3.cell rfl), ?_, ?_, ?_⟩
    · rw [HUS.out, E9.out]
    · rw [HUS.out]; exact z1
    · exact z2
end Go.Proofs.YtlalgaioiapjmaaGreatDoor
namespace Go.Proofs.YtlalgaioiapjmaaGreatDoor
open Go.ChangeShapes Go.WideShapes Go.ChangeAt Go.RowKit
open K (Term Atom Rule TermsAt LitsAt RuleV termAt litAt StrsAt boundR)
/-- Where a text stands first; -1: nowhere. -/
def idxB (xs : List ByteArray) (t : ByteArray) : Int := match xs.findIdx? (fun y => decide (t = y)) with
  | some i => (i : Int)
  | none => -1
theorem idxB_at {xs : List ByteArray} {t : ByteArray} {k : Nat} (h1 : xs[k]? = some t) (h2 : ∀ j y, j < k → xs[j]? = some y → t ≠ y) : idxB xs t = (k : Int) := by
  unfold idxB
  have : xs.findIdx? (fun y => decide (t = y)) = some k := by
    rw [List.findIdx?_eq_some_iff_getElem]
    obtain ⟨hk, e⟩ := List.getElem?_eq_some_iff.1 h1
    refine ⟨hk, by simp [e], fun j hj => ?_⟩
    have := h2 j xs[j] hj (List.getElem?_eq_getElem (by omega))
    simpa using this
  rw [this]
theorem idxB_no {xs : List ByteArray} {t : ByteArray} (h : ∀ (j : Nat) (y : ByteArray), xs[j]? = some y → t ≠ y) : idxB xs t = -1 := by
  unfold idxB
  have : xs.findIdx? (fun y => decide (t = y)) = none := by
    rw [List.findIdx?_eq_none_iff]
    intro y hy
    obtain ⟨j, hj⟩ := List.mem_iff_getElem?.1 hy
    simpa using h j y hj
  rw [this]
theorem idxB_nonneg (xs : List ByteArray) (t : ByteArray) : 0 ≤ idxB xs t ↔ t ∈ xs := by
  by_cases hm : t ∈ xs
  · refine ⟨fun _ => hm, fun _ => ?_⟩
    unfold idxB
    cases h : xs.findIdx? (fun y => decide (t = y)) with
    | some i => exact Int.natCast_nonneg i
    | none =>
      rw [List.findIdx?_eq_none_iff] at h
      have := h t hm
      simp at this
  · have : idxB xs t = -1 := idxB_no fun j y hj e => hm (e ▸ List.mem_of_getElem? hj)
    rw [this]
    exact ⟨fun h => absurd h (by omega), fun h => absurd h hm⟩
set_option maxRecDepth 100000 in
theorem c_indexS (xs : List ByteArray) (t : ByteArray) (a : Option Addr) (n cap : Nat) (w : World) (h : StrsAt w a n xs) :
    Calls Tryz.prog 165 #[.slice a n cap, .string t] w fun e w' => e = .returned (.int .i64 (idxB xs t)) ∧ w' = w := by
  have H := Lib.hid h
  have hn : n ≤ 9223372036854775807 := Nat.le_trans h.1 (by decide)
  clear h
  go_enter Tryz.func165, Tryz.ntmps165
  go_wp2
  go_loopw [8] (fun iv wr => wr = w ∧ ∃ k : Nat, iv = .int .i64 (k : Nat) ∧ k ≤ n ∧ ∀ j y, j < k → xs[j]? = some y → t ≠ y) (fun iv _ => n - (intOf iv).toNat)
  case atStart => exact ⟨rfl, 0, rfl, Nat.zero_le _, fun j y h => absurd h (by omega)⟩
  case round =>
    obtain ⟨rfl, k, rfl, hkn, hall⟩ := hrel
    have HA := Lib.hid hall
    clear hall
    by_cases hk : k < n
    · obtain ⟨y, b, off, h1, rfl, h2⟩ := H.out.at hk
      have h3 : wr.cell? ⟨b, off + k, none⟩ = some (.string y) := h2
      have HX := Lib.hid h1
      clear h1 h2
      by_cases he : t = y
      · subst he
        have hbe : (t.toList == t.toList) = true := by simp
        go_wp2
        go_returns
        exact ⟨by rw [idxB_at HX.out HA.out]; rfl, rfl⟩
      · have hbe : (t.toList == y.toList) = false := by rw [beq_bytes, decide_eq_false he]
        have HNE := Lib.hid he
        clear he
        go_wp2
        go_roundw
        case rel =>
          refine ⟨by first | trivial | rfl, k + 1, by simp, by omega, fun j z hj hz => ?_⟩
          rcases Nat.lt_or_ge j k with h | h
          · exact HA.out j z h hz
          · obtain rfl : j = k := by omega
            rw [HX.out] at hz
            cases hz
            exact HNE.out
        case measure => simp [intOf]; omega
    · obtain rfl : k = n := by omega
      go_wp2
      go_returns
      refine ⟨?_, rfl⟩
      rw [idxB_no fun j y hj => HA.out j y (by rw [← H.out.2.1]; exact (List.getElem?_eq_some_iff.1 hj).1) hj]
      rfl
set_option maxRecDepth 100000 in
theorem c_containsS (xs : List ByteArray) (t : ByteArray) (a : Option Addr) (n cap : Nat) (w : World) (h : StrsAt w a n xs) :
    Calls Tryz.prog 148 #[.slice a n cap, .string t] w fun e w' => e = .returned (.bool (decide (0 ≤ idxB xs t))) ∧ w' = w := by
  have I := Lib.hid (c_indexS xs t a n cap w h)
  clear h
  go_enter Tryz.func148, Tryz.ntmps148
  go_wp2_with (go_at_call 165; (with_reducible refine I.out.mono ?_); rintro e w1 ⟨rfl, hw1⟩; obtain rfl := hw1.symm)
  go_returns
  first | trivial | exact ⟨rfl, rfl⟩
def bstep (k : Int) (out : List ByteArray) (t : Term) : List ByteArray := if k = 1 ∧ t.kind = 1 then out ++ [t.text] else out
def bstepL (out : List ByteArray) (l : K.Lit) : List ByteArray := l.atom.terms.foldl (bstep l.kind) out
theorem bstep_fold (k : Int) (ts : List Term) : ∀ out : List ByteArray, ts.foldl (bstep k) out = out ++ if k = 1 then K.termVars ts else [] := by
  induction ts with
  | nil => intro out; by_cases h : k = 1 <;> simp [h, K.termVars]
  | cons t ts ih =>
    intro out
    rw [List.foldl_cons, ih]
    unfold bstep K.termVars
    by_cases h : k = 1 <;> by_cases h2 : t.kind = 1 <;> simp [h, h2]
theorem boundR_eq (r : Rule) : boundR r = r.body.foldl bstepL [] := by
  have H : ∀ (ls : List K.Lit) (out : List ByteArray), ls.foldl bstepL out = out ++ K.bodyVars (ls.filter fun l => decide (l.kind = 1)) := by
    intro ls
    induction ls with
    | nil => intro out; simp [K.bodyVars]
    | cons l ls ih =>
      intro out
      rw [List.foldl_cons, ih]
      unfold bstepL
      rw [bstep_fold]
      by_cases h : l.kind = 1
      · simp [h, K.bodyVars]
      · simp [h]
  rw [H]
  rfl
theorem bfold_len (k : Int) (ts : List Term) : ∀ out : List ByteArray, out.length ≤ (ts.foldl (bstep k) out).length := by
  intro out
  rw [bstep_fold]
  simp
theorem bfoldL_len (ls : List K.Lit) : ∀ out : List ByteArray, out.length ≤ (ls.foldl bstepL out).length := by
  induction ls with
  | nil => intro out; exact Nat.le_refl _
  | cons l ls ih => intro out; exact Nat.le_trans (bfold_len l.kind l.atom.terms out) (ih _)
theorem bvars_part {r : Rule} {k j : Nat} {l : K.Lit} (h : r.body[k]? = some l) : ((l.atom.terms.take j).foldl (bstep l.kind) ((r.body.take k).foldl bstepL [])).length ≤ (boundR r).length := by
  have e : boundR r = (r.body.drop (k + 1)).foldl bstepL ((l.atom.terms.drop j).foldl (bstep l.kind) ((l.atom.terms.take j).foldl (bstep l.kind) ((r.body.take k).foldl bstepL []))) := by
    rw [← List.foldl_append, List.take_append_drop, boundR_eq]
    show _ = (r.body.drop (k + 1)).foldl bstepL (bstepL _ l)
    rw [← List.foldl_cons, ← drop_at h, ← List.foldl_append, List.take_append_drop]
  rw [e]
  exact Nat.le_trans (bfold_len _ _ _) (bfoldL_len _ _)
def VarsPost (xs : List ByteArray) (w : World) (e : Ending) (w' : World) : Prop := ∃ a c, e = .returned (.slice a xs.length c) ∧ StrsAt w' a xs.length xs ∧ Ext w w'
def VarSt (w wj : World) (out : List ByteArray) (v : Value) : Prop := wj.ownsRow w.heap.size 9 1 v out.length (out.map Value.string) ∧ Ext w wj
theorem VarSt.ext {w W W' : World} {out : List ByteArray} {v : Value} (h : VarSt w W out v) (e : Ext W W') : VarSt w W' out v := ⟨up_ext h.1 e, ext_trans h.2 e⟩
set_option maxRecDepth 100000 in
set_option maxHeartbeats 4000000 in
theorem c_bound (r : Rule) (ah : Option Addr) (nh ch : Nat) (ab : Option Addr) (nb cb : Nat) (w : World) (hr : RuleV w r ah nh ch ab nb cb) (hv : (boundR r).length ≤ 1000000) :
    Calls Tryz.prog 118 #[.agg #[.string r.head.pred, .slice ah nh ch, .slice ab nb cb]] w (VarsPost (boundR r) w) := by
  obtain ⟨i0, hi, hz0, hz1, hz2⟩ := info_parts K.info_string
  have HR := Lib.hid hr
  have HLB := Lib.hid hr.body.2.1
  have HV := Lib.hid hv
  have hn := hr.body.1
  clear hr hv
  have E0 : Hid (∀ o, Ext w (w.alloc o)) := fun o => ext_alloc (Below.refl _ _) o
  go_enter Tryz.func118, Tryz.ntmps118
  go_wp2
  go_loopw [3, 11] (fun v u wj => ∃ k : Nat, k ≤ nb ∧ u = .int .i64 k ∧ VarSt w wj ((r.body.take k).foldl bstepL []) v) (fun _ u _ => nb - (intOf u).toNat)
  case atStart => exact ⟨0, by omega, rfl, World.ownsRow_nil _ _ _ _, E0.out _⟩
  case round =>
    obtain ⟨k, hk, rfl, hst⟩ := hrel
    have ST := Lib.hid hst
    clear hst
    by_cases hlt : k < nb
    · have hki : (k : Int) < (nb : Int) := by omega
      obtain ⟨l, bl, off, hx, rfl, al, nl, cl, h0, h1, h2, h3, h4, h5, h6, h7, h8, h9, h10, h11, h12⟩ := (HR.out.body.keep ST.out.2).2.at hlt
      have HX := Lib.hid hx
      have HTK : Hid (r.body.take (k + 1) = r.body.take k ++ [l]) := take_at hx
      have HTM : Hid (TermsAt w al nl l.atom.terms) := by
        obtain ⟨l', bl', off', hx', e', al', nl', cl', _, _, q2, _, _, _, _, _, q8, _⟩ := HR.out.body.2.at hlt
        rw [hx] at hx'
        cases hx'
        cases e'
        have := keep ST.out.2 q2
        rw [h2] at this
        cases this
        exact q8
      have HLT := Lib.hid h8.2.1
      have hnl := h8.1
      clear hx h8 h9 h10 h11 h12
      obtain ⟨b1, e1⟩ : ∃ b, (l.kind == 1) = b := ⟨_, rfl⟩
      have K1 : Hid ((l.kind = 1) ↔ b1 = true) := by show _ ↔ _; rw [← e1]; simp
      go_wp2
      obtain ⟨p5, hp5⟩ : ∃ p5, p5 = wr.heap.size := ⟨_, rfl⟩
      rw [← hp5]
      have EL : Hid (∀ o, VarSt w (wr.alloc o) ((r.body.take k).foldl bstepL []) u3) := fun o => ST.out.ext (ext_alloc (Below.refl _ _) o)
      have CK : Hid ((wr.alloc (.cells #[.int .i64 l.kind, .string l.atom.pred, .slice al nl cl, .int .i64 l.op, .int .i64 l.left.kind, .string l.left.text, .int .i64 l.right.kind, .string l.right.text] 47)).cell? ⟨p5, 0, none⟩ = some (.int .i64 l.kind)) := by show _ = _; rw [hp5]; go_simp
      have HP5 : Hid (p5 = wr.heap.size) := hp5
      clear hp5 h0 h1 h2 h3 h4 h5 h6 h7
      obtain ⟨out0, hout0⟩ : ∃ out0, (r.body.take k).foldl bstepL [] = out0 := ⟨_, rfl⟩
      have HO0 := Lib.hid hout0
      rw [hout0] at EL
      have HNX : Hid (∀ o : List ByteArray, o = l.atom.terms.foldl (bstep l.kind) out0 → (r.body.take (k + 1)).foldl bstepL [] = o) := fun o ho => by rw [HTK.out, List.foldl_append, HO0.out, ho]; rfl
      have HLE : Hid (∀ j, ((l.atom.terms.take j).foldl (bstep l.kind) out0).length ≤ 1000000) := fun j => by
        have := bvars_part (j := j) HX.out
        rw [HO0.out] at this
        exact Nat.le_trans this HV.out
      clear hout0
      go_loopw [3, 19] (fun v u wj => ∃ j : Nat, j ≤ nl ∧ u = .int .i64 j ∧ VarSt w wj ((l.atom.terms.take j).foldl (bstep l.kind) out0) v ∧ wj.cell? ⟨p5, 0, none⟩ = some (.int .i64 l.kind) ∧ v.ownBlock ≠ some p5) (fun _ u _ => nl - (intOf u).toNat)
      case atStart => exact ⟨0, by omega, rfl, EL.out _, CK.out, fun e => by have := (ST.out.1.lt _ e).2; have := HP5.out; omega⟩
      case round =>
        obtain ⟨j, hj, rfl, hst, ck, hne⟩ := hrel
        have HNE := Lib.hid hne
        clear hne
        obtain ⟨out, hout⟩ : ∃ out, (l.atom.terms.take j).foldl (bstep l.kind) out0 = out := ⟨_, rfl⟩
        rw [hout] at hst
        have HOUT := Lib.hid hout
        obtain ⟨a3, c3, rfl, _⟩ := own_form hst.1
        have SJ := Lib.hid hst
        clear hst hout
        by_cases hlj : j < nl
        · have hji : (j : Int) < (nl : Int) := by omega
          obtain ⟨t, bt, ot, hx, rfl, hc1, hc2, hc3⟩ := (HTM.out.keep SJ.out.2).2.at hlj
          have HTJ : Hid ((l.atom.terms.take (j + 1)).foldl (bstep l.kind) out0 = bstep l.kind out t) := by
            show _ = _
            rw [take_at hx, List.foldl_append, HOUT.out]
            rfl
          have hol : out.length ≤ 1000000 := by
            have := HLE.out j
            rwa [HOUT.out] at this
          clear hx
          obtain ⟨b2, e2⟩ : ∃ b, (t.kind == 1) = b := ⟨_, rfl⟩
          have K2 : Hid ((t.kind = 1) ↔ b2 = true) := by show _ ↔ _; rw [← e2]; simp
          have ck2 : ∀ o, (wr.alloc o).cell? ⟨p5, 0, none⟩ = some (.int .i64 l.kind) := fun o => keep (ext_alloc (Below.refl _ _) o) ck
          have SA : Hid (∀ o, VarSt w (wr.alloc o) out (.slice a3 out.length c3)) := fun o => SJ.out.ext (ext_alloc (Below.refl _ _) o)
          cases b1 with
          | false =>
            have HQ : Hid (bstep l.kind out t = out) := by
              show _ = _
              unfold bstep
              rw [if_neg (fun h => absurd (K1.out.1 h.1) (by simp))]
            go_wp2
            go_roundw
            case rel => exact ⟨j + 1, by omega, by go_num, by rw [HTJ.out, HQ.out]; exact SA.out _, ck2 _, HNE.out⟩
            case measure => simp [intOf]; omega
          | true =>
            cases b2 with
            | false =>
              have HQ : Hid (bstep l.kind out t = out) := by
                show _ = _
                unfold bstep
                rw [if_neg (fun h => absurd (K2.out.1 h.2) (by simp))]
              go_wp2
              go_roundw
              case rel => exact ⟨j + 1, by omega, by go_num, by rw [HTJ.out, HQ.out]; exact SA.out _, ck2 _, HNE.out⟩
              case measure => simp [intOf]; omega
            | true =>
              have HQ : Hid (bstep l.kind out t = out ++ [t.text]) := by
                show _ = _
                unfold bstep
                rw [if_pos ⟨K1.out.2 rfl, K2.out.2 rfl⟩]
              have HZ : Hid (∀ o o', w.heap.size ≤ ((wr.alloc o).alloc o').heap.size) := fun o o' => (ext_alloc (ext_alloc SJ.out.2 o) o').size
              go_wp2_with (first
                | (at_builtin; go_loud (refine wpList_append_lies _ rfl _ _ 25 rfl w.heap.size 9 i0 (.string ⟨#[]⟩) 1 16 Tryz.underlying25 hi hz0 hz1 hz2 rfl (by decide) _ out.length (out.map Value.string) rfl (((SA.out _).ext (ext_alloc (Below.refl _ _) _)).1) ⟨wr.heap.size + 1, 0, none⟩ 1 1 [.string t.text] rfl rfl (by have := news1 (wr.alloc (.cells #[.int .i64 t.kind, .string t.text] 42)) (.string t.text) 9; simpa using this) (fun x hx => by cases List.mem_singleton.1 hx; rfl) (Nat.zero_lt_one) (by unfold maxLen; omega) (by omega) (HZ.out _ _) _ rfl ?_); intro g7 p7 w7 own7 q7 hat7 hlt7))
              go_roundw
              case rel =>
                have hp5 : p5 < wr.heap.size := World.block_lt_of_cell? wr ⟨p5, 0, none⟩ ck
                refine ⟨j + 1, by omega, by go_num, ?_, ?_, ?_⟩
                · rw [HTJ.out, HQ.out]
                  refine ⟨by rw [List.length_append, List.map_append]; exact own7, ?_⟩
                  exact ext_ownB (((SA.out _).ext (ext_alloc (Below.refl _ _) _)).2) q7 (fun g hg => (SJ.out.1.lt g hg).1)
                · rw [← ck]
                  exact World.cell?_of_block ((q7.block p5 (by simp; omega) (fun e => HNE.out e.symm)).trans ((ext_alloc (ext_alloc (Below.refl _ wr) _) _).block p5 hp5))
                · intro e
                  cases e
                  rcases hat7 with h | h
                  · exact HNE.out h
                  · rw [h] at hp5
                    simp at hp5
                    try omega
              case measure => simp [intOf]; omega
        · obtain rfl : j = nl := by omega
          have hge : ¬ (j : Int) < (j : Int) := by omega
          have HALL : Hid (l.atom.terms.take j = l.atom.terms) := List.take_of_length_le (by have := HLT.out; omega)
          go_wp2
          go_roundw
          case rel => exact ⟨k + 1, by omega, by go_num, by rw [HNX.out out (by rw [← HOUT.out, HALL.out])]; exact SJ.out⟩
          case measure => simp [intOf]; omega
    · obtain rfl : k = nb := by omega
      have hge : ¬ (k : Int) < (k : Int) := by omega
      have HALL : Hid ((r.body.take k).foldl bstepL [] = boundR r) := by
        show _ = _
        rw [List.take_of_length_le (by have := HLB.out; omega), boundR_eq]
      rw [HALL.out] at ST
      obtain ⟨a3, c3, rfl, hc3⟩ := own_form ST.out.1
      go_wp2
      go_returns
      obtain ⟨a9, c9, e9, h9⟩ := K.own_strs ST.out.1 (by have := HV.out; omega)
      cases e9
      exact ⟨_, _, rfl, h9, ST.out.2⟩
end Go.Proofs.YtlalgaioiapjmaaGreatDoor
namespace Go.Proofs.YtlalgaioiapjmaaGreatDoor
open Go.ChangeShapes Go.WideShapes Go.ChangeAt Go.RowKit
open K (Term Rule RuleV StrsAt boundR varK breachB headBad negBad cmpBad)
def brN (k i j : Int) (s : ByteArray) : Bool := decide (¬ (k = 0 ∧ i = 0 ∧ j = 0 ∧ s = ⟨#[]⟩))
theorem eql_breach (k i j : Int) (s : ByteArray) (w : World) : (binOp .eql 144 (.agg #[.int .i64 k, .int .i64 i, .int .i64 j, .string s]) (.agg #[.int .i64 0, .int .i64 0, .int .i64 0, .string ⟨#[]⟩])).run Tryz.prog w = .ok (.bool (!brN k i j s)) w := by
  have e : s.toList = [] ↔ s = ⟨#[]⟩ := toList_eq_iff s []
  simp only [go_sem]
  simp [go_sem]
  by_cases h1 : k = 0 <;> by_cases h2 : i = 0 <;> by_cases h3 : j = 0 <;> by_cases h4 : s = ⟨#[]⟩ <;> simp [brN, h1, h2, h3, h4, e]
theorem neq_breach (k i j : Int) (s : ByteArray) (w : World) : (binOp .neq 144 (.agg #[.int .i64 k, .int .i64 i, .int .i64 j, .string s]) (.agg #[.int .i64 0, .int .i64 0, .int .i64 0, .string ⟨#[]⟩])).run Tryz.prog w = .ok (.bool (brN k i j s)) w := by
  have e : s.toList = [] ↔ s = ⟨#[]⟩ := toList_eq_iff s []
  simp only [go_sem]
  simp [go_sem]
  by_cases h1 : k = 0 <;> by_cases h2 : i = 0 <;> by_cases h3 : j = 0 <;> by_cases h4 : s = ⟨#[]⟩ <;> simp [brN, h1, h2, h3, h4, e]
/-- What is said of one term: it is well, or it is not. -/
def TermSaid (bad : Bool) (w : World) (e : Ending) (w' : World) : Prop := ∃ (k : Int) (s : ByteArray), e = .returned (.agg #[.int .i64 k, .int .i64 0, .int .i64 0, .string s]) ∧ ((k = 0 ∧ s = ⟨#[]⟩ ∧ bad = false) ∨ (k ≠ 0 ∧ bad = true)) ∧ Ext w w'
theorem contains_eq (xs : List ByteArray) (t : ByteArray) : decide (0 ≤ idxB xs t) = xs.contains t := by
  rw [Bool.eq_iff_iff, decide_eq_true_eq, idxB_nonneg, List.contains_iff_mem]
set_option maxRecDepth 100000 in
set_option maxHeartbeats 4000000 in
theorem c_breach (t : Term) (xs : List ByteArray) (a : Option Addr) (n cap : Nat) (bl : Bool) (w : World) (h : StrsAt w a n xs) :
    Calls Tryz.prog 121 #[.agg #[.int .i64 t.kind, .string t.text], .slice a n cap, .bool bl] w (TermSaid (breachB t xs bl) w) := by
  have CN : Hid (∀ W, Ext w W → Calls Tryz.prog 148 #[.slice a n cap, .string t.text] W fun e w' => e = .returned (.bool (xs.contains t.text)) ∧ w' = W) := fun W hW => by
    rw [← contains_eq]
    exact c_containsS xs t.text a n cap W (h.keep hW)
  obtain ⟨q, hq⟩ : ∃ q, xs.contains t.text = q := ⟨_, rfl⟩
  rw [hq] at CN
  have HQ := Lib.hid hq
  clear h hq
  have E0 : Hid (∀ o o', Ext w ((w.alloc o).alloc o')) := fun o o' => ext_alloc (ext_alloc (Below.refl _ _) _) _
  obtain ⟨k, s⟩ := t
  obtain ⟨bb, hbb⟩ : ∃ bb, breachB ⟨k, s⟩ xs bl = bb := ⟨_, rfl⟩
  rw [hbb]
  have HB : Hid (bb = if k = 2 then !bl else varK k && !q) := by
    show _ = _
    rw [← hbb, ← HQ.out]
    rfl
  clear hbb HQ
  by_cases h2 : k = 2
  · subst h2
    cases bl with
    | true =>
      go_enter Tryz.func121, Tryz.ntmps121
      go_wp2
      go_returns
      exact ⟨0, _, rfl, .inl ⟨rfl, rfl, by rw [HB.out]; rfl⟩, E0.out _ _⟩
    | false =>
      go_enter Tryz.func121, Tryz.ntmps121
      go_wp2
      go_returns
      exact ⟨1, _, rfl, .inr ⟨by decide, by rw [HB.out]; rfl⟩, E0.out _ _⟩
  have q2 : (k == 2) = false := by simpa using h2
  have HB2 : Hid (bb = (varK k && !q)) := by
    have := HB.out
    rwa [if_neg h2] at this
  clear HB h2
  by_cases hv : k = 1 ∨ k = 5 ∨ k = 6 ∨ k = 7
  · have HB3 : Hid (bb = !q) := by
      have e : varK k = true := by rcases hv with rfl | rfl | rfl | rfl <;> rfl
      have := HB2.out
      rwa [e, Bool.true_and] at this
    clear HB2
    cases q with
    | true =>
      rcases hv with rfl | rfl | rfl | rfl
      all_goals
        go_enter Tryz.func121, Tryz.ntmps121
        go_wp2_with (go_at_call 148; (with_reducible refine (CN.out _ (E0.out _ _)).mono ?_); rintro e w2 ⟨rfl, hw2⟩; obtain rfl := hw2.symm)
        go_returns
        exact ⟨0, _, rfl, .inl ⟨rfl, rfl, HB3.out⟩, E0.out _ _⟩
    | false =>
      rcases hv with rfl | rfl | rfl | rfl
      all_goals
        go_enter Tryz.func121, Tryz.ntmps121
        go_wp2_with (go_at_call 148; (with_reducible refine (CN.out _ (E0.out _ _)).mono ?_); rintro e w2 ⟨rfl, hw2⟩; obtain rfl := hw2.symm)
        go_returns
        exact ⟨2, _, rfl, .inr ⟨by decide, HB3.out⟩, E0.out _ _⟩
  · have HB3 : Hid (bb = false) := by
      have e : varK k = false := by
        unfold varK
        simp only [Bool.or_eq_false_iff, decide_eq_false_iff_not]
        omega
      have := HB2.out
      rwa [e, Bool.false_and] at this
    have q1 : (k == 1) = false := by rw [beq_eq_false_iff_ne]; omega
    have q5 : (k == 5) = false := by rw [beq_eq_false_iff_ne]; omega
    have q6 : (k == 6) = false := by rw [beq_eq_false_iff_ne]; omega
    have q7 : (k == 7) = false := by rw [beq_eq_false_iff_ne]; omega
    clear hv HB2
    go_enter Tryz.func121, Tryz.ntmps121
    go_wp2
    go_returns
    exact ⟨0, _, rfl, .inl ⟨rfl, rfl, HB3.out⟩, E0.out _ _⟩
end Go.Proofs.YtlalgaioiapjmaaGreatDoor
