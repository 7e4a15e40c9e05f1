/- The walk of the law ContainLays. -/
import Derived.Test.YtcphjfggjjonpaaLaidR
import Derived.Test.YtcphjfggjjonpaaStays
namespace Go.Proofs.Ytcphjfggjjonpaa
open Go.ChangeShapes Go.WideShapes Go.ChangeAt Go.RowKit
/-- The blocks between two places are as they were. -/
def HeapSame (lo hi : Nat) (w w' : World) : Prop := ∀ b, lo ≤ b → b < hi → w'.heap[b]? = w.heap[b]?
theorem HeapSame.refl (lo hi : Nat) (w : World) : HeapSame lo hi w w := fun _ _ _ => rfl
theorem HeapSame.ext {lo hi : Nat} {w x y : World} (h : HeapSame lo hi w x) (hh : hi ≤ x.heap.size) (e : Ext x y) : HeapSame lo hi w y := fun b h1 h2 => (e.block b (Nat.lt_of_lt_of_le h2 hh)).trans (h b h1 h2)
theorem HeapSame.drew {lo hi : Nat} {w x : World} (h : HeapSame lo hi w x) : HeapSame lo hi w x.drew := h
theorem HeapSame.alloc {lo hi : Nat} {w x : World} (h : HeapSame lo hi w x) (hh : hi ≤ x.heap.size) (o : Obj) : HeapSame lo hi w (x.alloc o) := h.ext hh (ext_alloc (Below.refl _ _) o)
theorem HeapSame.set {lo hi : Nat} {w x : World} (h : HeapSame lo hi w x) {p : Addr} (hp : p.block < lo ∨ hi ≤ p.block) (v : Value) : HeapSame lo hi w (x.setCell p v) := fun b h1 h2 => by
  rw [← h b h1 h2]
  exact RowKit.Below.heap_setCell x p v b (by omega)
theorem own_same {w w' : World} {base base' : Nat} {e : TypeId} {size n : Nat} {v : Value} {xs : List Value} (h : w.ownsRow base e size v n xs) (hb : base' ≤ base) (hs : HeapSame base w.heap.size w w') : w'.ownsRow base' e size v n xs := by
  refine ⟨h.1, ?_⟩
  rcases h.2 with hn | ⟨g, cap, cur, rfl, hb2, hgg, rest⟩
  · exact .inl hn
  · exact .inr ⟨g, cap, cur, rfl, by omega, (hs g hb2 (Array.getElem?_eq_some_iff.1 hgg).1).trans hgg, rest⟩
theorem OwnR.same {w w' : World} {base base' : Nat} {r : Rule} {gh ch gb cb : Nat} (h : OwnR w base r gh ch gb cb) (hb : base' ≤ base) (hs : HeapSame base w.heap.size w w') : OwnR w' base' r gh ch gb cb := by
  obtain ⟨ps, h1, h2, h3⟩ := h.body
  exact ⟨⟨own_same h.head.1 hb hs, h.head.2⟩, ps, h1, ⟨own_same h2.1 hb hs, h2.2⟩, fun p hp => ⟨own_same (h3 p hp).1 hb hs, (h3 p hp).2⟩⟩
theorem bcell2 {W w1 : World} (hb : Ext W w1) : (∀ b o, b < W.heap.size → w1.cell? ⟨b, o, none⟩ = W.cell? ⟨b, o, none⟩) ∧ (∀ b o, b < W.heap.size → w1.frozen? ⟨b, o, none⟩ = W.frozen? ⟨b, o, none⟩) :=
  ⟨fun b o h => hb.cell (p := ⟨b, o, none⟩) h, fun b o h => hb.frozen (p := ⟨b, o, none⟩) h⟩
/-- The numbers that Laid answers. -/
def laidInts (r s : Rule) : List Int := ((laid r s).2.getD []).map fun k => ((k : Nat) : Int)
theorem laid_ints {r s : Rule} {w w' : World} {a : Option Addr} {n cap : Nat} (h : LaidOut r s w (.slice a n cap) w') : IntsAt w' a n (laidInts r s) := by
  obtain ⟨_, h2, h3⟩ := h
  unfold laidInts
  cases hl : (laid r s).2 with
  | none =>
    cases h2 hl
    exact ⟨Nat.zero_le _, rfl, fun i x hx => by simp at hx⟩
  | some l =>
    have ho := h3 l hl
    obtain ⟨_, _, e, _⟩ := own_form ho
    cases e
    exact (own_ints ho).2
set_option maxRecDepth 100000 in
set_option maxHeartbeats 40000000 in
theorem c_lays (r s : Rule) (ah : Option Addr) (nh ch : Nat) (ab : Option Addr) (nb cb : Nat) (ah' : Option Addr) (nh' ch' : Nat) (ab' : Option Addr) (nb' cb' : Nat) (w : World) (hr : RuleV w r ah nh ch ab nb cb) (hs : RuleV w s ah' nh' ch' ab' nb' cb') :
    Calls Try.prog 5 #[.agg #[.string r.head.pred, .slice ah nh ch, .slice ab nb cb], .agg #[.string s.head.pred, .slice ah' nh' ch', .slice ab' nb' cb']] w fun e w' => e = .returned (.bool true) ∧ Ext w w' := by
  have HR := Lib.hid hr
  have HS := Lib.hid hs
  clear hr hs
  go_enter Try.func5, Try.ntmps5
  go_upto_region 1 with (fail)
  refine wp_gen (fun W hW => ?_)
  have hb0 : Ext w W := by rw [hW]; go_grown
  have x0 : W.cell? ⟨w.heap.size, 0, none⟩ = some (.string r.head.pred) := by rw [hW]; go_simp
  have x1 : W.cell? ⟨w.heap.size, 1, none⟩ = some (.slice ah nh ch) := by rw [hW]; go_simp
  have x2 : W.cell? ⟨w.heap.size, 2, none⟩ = some (.slice ab nb cb) := by rw [hW]; go_simp
  have y0 : W.cell? ⟨w.heap.size + 1, 0, none⟩ = some (.string s.head.pred) := by rw [hW]; go_simp
  have y1 : W.cell? ⟨w.heap.size + 1, 1, none⟩ = some (.slice ah' nh' ch') := by rw [hW]; go_simp
  have y2 : W.cell? ⟨w.heap.size + 1, 2, none⟩ = some (.slice ab' nb' cb') := by rw [hW]; go_simp
  clear hW
  have hd : Ext W W.drew := ext_drew (Below.refl _ _)
  have hz : w.heap.size + 1 < W.heap.size := World.block_lt_of_cell? _ _ y0
  have hzz : w.heap.size < W.heap.size := by omega
  go_cut [5, 6] (fun v5 v6 wc => ∃ pa pb gh c1 gb c2 gh' c1' gb' c2', v5 = .pointer (some ⟨pa, 0, none⟩) ∧ v6 = .pointer (some ⟨pb, 0, none⟩) ∧ (∀ b o, b < W.heap.size → wc.cell? ⟨b, o, none⟩ = W.cell? ⟨b, o, none⟩) ∧ Ext w wc ∧ OwnR wc w.heap.size r gh c1 gb c2 ∧ OwnR wc w.heap.size s gh' c1' gb' c2' ∧
    (wc.cell? ⟨pa, 0, none⟩ = some (.string r.head.pred) ∧ wc.cell? ⟨pa, 1, none⟩ = some (.slice (some ⟨gh, 0, none⟩) nh c1) ∧ wc.cell? ⟨pa, 2, none⟩ = some (.slice (some ⟨gb, 0, none⟩) nb c2)) ∧
    (wc.cell? ⟨pb, 0, none⟩ = some (.string s.head.pred) ∧ wc.cell? ⟨pb, 1, none⟩ = some (.slice (some ⟨gh', 0, none⟩) nh' c1') ∧ wc.cell? ⟨pb, 2, none⟩ = some (.slice (some ⟨gb', 0, none⟩) nb' c2')))
  case first =>
    go_region_held3 (fun w' => ∀ b o, b < W.heap.size → w'.cell? ⟨b, o, none⟩ = W.cell? ⟨b, o, none⟩)
      ((intro bb oo hbb; repeat (first | (with_reducible rfl) | (with_reducible rw [World.cell?_drew]) | ((with_reducible refine (hc7 bb oo ?_).trans ?_); · (first | omega | (simp; done) | (simp; omega))) | ((with_reducible refine (hc6 bb oo ?_).trans ?_); · (first | omega | (simp; done) | (simp; omega))) | ((with_reducible refine (World.cell?_alloc_lt _ _ _ ?_).trans ?_); · (show bb < _; (first | omega | (simp; done) | (simp; omega)))) | ((with_reducible refine (World.cell?_setCell_far _ _ _ _ ?_).trans ?_); · (show _ ≠ bb; (first | omega | (simp; done) | (simp; omega)))))))
      (first
        | (go_at_call 12; (with_reducible refine (c_own r _ _ _ _ _ _ _ (HR.out.keep (by repeat (with_reducible (first | exact hb0 | apply ext_drew | apply ext_alloc | refine ext_trans ?_ h7))))).mono ?_); rintro e w6 ⟨g1, c1, g2, c2, rfl, O6, h6⟩; obtain ⟨hc6, hf6⟩ := bcell2 h6; have hz6 := h6.size; (try simp at hz6); (try have l1 : W.heap.size < w6.heap.size := by omega); (try have l2 : W.heap.size + 1 < w6.heap.size := by omega))
        | (go_at_call 12; (with_reducible refine (c_own s _ _ _ _ _ _ _ (HS.out.keep (by repeat (with_reducible (first | exact hb0 | apply ext_drew | apply ext_alloc | refine ext_trans ?_ h6))))).mono ?_); rintro e w7 ⟨g3, c3, g4, c4, rfl, O7, h7⟩; obtain ⟨hc7, hf7⟩ := bcell2 h7; have hz7 := h7.size; (try simp at hz7); (try have l3 : W.heap.size < w7.heap.size := by omega); (try have l4 : W.heap.size + 1 < w7.heap.size := by omega); (try have l5 : w6.heap.size < w7.heap.size := by omega); (try have l6 : w6.heap.size + 1 < w7.heap.size := by omega); (try have n1 : w6.heap.size ≠ W.heap.size := by omega); (try have n2 : ¬ w6.heap.size = W.heap.size + 1 := by omega))
        | fail)
    all_goals
      go_wp2
      go_meet
      refine ⟨_, _, g1, c1, g2, c2, g3, c3, g4, c4, rfl, rfl, by assumption, ?_, ?_, ?_, ⟨?_, ?_, ?_⟩, ⟨?_, ?_, ?_⟩⟩
      · (repeat (first | ((with_reducible refine ext_set ?_ (p := ⟨_, _, none⟩) ?_ _); rotate_left; · (dsimp only; (first | omega | (simp; done) | (simp; omega)))) | (with_reducible exact hb0) | (with_reducible refine ext_trans ?_ h7) | (with_reducible refine ext_trans ?_ h6) | (with_reducible apply ext_alloc) | (with_reducible apply ext_drew)))
      · (refine O6.same ?_ ?_; (· (first | omega | (simp; done) | (simp; omega))); repeat (first | ((with_reducible refine HeapSame.set ?_ (p := ⟨_, _, none⟩) ?_ _); rotate_left; · (dsimp only; first | exact .inl (by (first | omega | (simp; done) | (simp; omega))) | exact .inr (by (first | omega | (simp; done) | (simp; omega))))) | (with_reducible exact HeapSame.refl _ _ _) | ((with_reducible refine HeapSame.ext ?_ ?_ h7); rotate_left; · (first | omega | (simp; done) | (simp; omega))) | ((with_reducible refine HeapSame.alloc ?_ ?_ _); rotate_left; · (first | omega | (simp; done) | (simp; omega))) | (with_reducible apply HeapSame.drew)))
      · (refine O7.same ?_ ?_; (· (first | omega | (simp; done) | (simp; omega))); repeat (first | ((with_reducible refine HeapSame.set ?_ (p := ⟨_, _, none⟩) ?_ _); rotate_left; · (dsimp only; first | exact .inl (by (first | omega | (simp; done) | (simp; omega))) | exact .inr (by (first | omega | (simp; done) | (simp; omega))))) | (with_reducible exact HeapSame.refl _ _ _) | ((with_reducible refine HeapSame.ext ?_ ?_ h6); rotate_left; · (first | omega | (simp; done) | (simp; omega))) | ((with_reducible refine HeapSame.alloc ?_ ?_ _); rotate_left; · (first | omega | (simp; done) | (simp; omega))) | (with_reducible apply HeapSame.drew)))
      all_goals (repeat (first | (with_reducible rfl) | (with_reducible rw [World.cell?_drew]) | ((with_reducible refine (World.cell?_alloc_at _ _ _ _ ?_).trans ?_); (· (first | omega | (simp; done) | (simp; omega))); (· rfl)) | ((with_reducible refine (World.cell?_alloc_lt _ _ _ ?_).trans ?_); · (show _ < _; (first | omega | (simp; done) | (simp; omega)))) | (with_reducible apply World.cell?_setCell_same) | ((with_reducible refine (World.cell?_setCell_other _ _ _ _ ?_).trans ?_); · (simp; done)) | ((with_reducible refine (World.cell?_setCell_far _ _ _ _ ?_).trans ?_); · (show _ ≠ _; (first | omega | (simp; done) | (simp; omega)))) | ((with_reducible refine (hc7 _ _ ?_).trans ?_); · (first | omega | (simp; done) | (simp; omega))) | ((with_reducible refine (hc6 _ _ ?_).trans ?_); · (first | omega | (simp; done) | (simp; omega)))))
  case rest =>
    obtain ⟨pa, pb, gh, c1, gb, c2, gh', c1', gb', c2', rfl, rfl, hWc, hE, OA, OB, ⟨a0, a1, a2⟩, ⟨b0, b1, b2⟩⟩ := hcut
    have HA := Lib.hid (OA.rule HR.out)
    have HB := Lib.hid (OB.rule HS.out)
    have HOA := Lib.hid OA
    have HOB := Lib.hid OB
    have HE := Lib.hid hE
    have x0 := hWc _ _ hzz |>.trans x0
    have x1 := hWc _ _ hzz |>.trans x1
    have x2 := hWc _ _ hzz |>.trans x2
    have y0 := hWc _ _ hz |>.trans y0
    have y1 := hWc _ _ hz |>.trans y1
    have y2 := hWc _ _ hz |>.trans y2
    clear hWc OA OB hE hd hb0
    obtain ⟨R1, hR1⟩ : ∃ x, laid r s = x := ⟨_, rfl⟩
    obtain ⟨S1, hS1⟩ : ∃ x, sameC r s = x := ⟨_, rfl⟩
    obtain ⟨P1, hP1⟩ : ∃ x, plain r = x := ⟨_, rfl⟩
    obtain ⟨P2, hP2⟩ : ∃ x, plain s = x := ⟨_, rfl⟩
    have ER := Lib.hid hR1
    have ES := Lib.hid hS1
    have EP := Lib.hid hP1
    have EQ := Lib.hid hP2
    clear hR1 hS1 hP1 hP2
    go_upto_region 3 with (go_at_call 11; (with_reducible refine (c_Laid2 r s _ _ _ _ _ _ _ _ _ _ _ _ wc HA.out HB.out).mono ?_); rw [ER.out]; rintro e w1 ⟨t1, n1, k1, rfl, h1, lo1⟩; have x0 := keep h1 x0; have x1 := keep h1 x1; have x2 := keep h1 x2; have y0 := keep h1 y0; have y1 := keep h1 y1; have y2 := keep h1 y2; have a0 := keep h1 a0; have a1 := keep h1 a1; have a2 := keep h1 a2; have b0 := keep h1 b0; have b1 := keep h1 b1; have b2 := keep h1 b2)
    have hE1 := Lib.hid (ext_trans HE.out h1)
    go_upto_region 4 with (go_at_call 18; (with_reducible refine (c_dLaid r s _ _ _ _ _ _ _ _ _ _ _ _ w1 (HR.out.keep hE1.out) (HS.out.keep hE1.out)).mono ?_); rw [ER.out]; rintro e w2 ⟨t2, n2, k2, rfl, h2, lo2⟩; have x0 := keep h2 x0; have x1 := keep h2 x1; have x2 := keep h2 x2; have y0 := keep h2 y0; have y1 := keep h2 y1; have y2 := keep h2 y2; have a0 := keep h2 a0; have a1 := keep h2 a1; have a2 := keep h2 a2; have b0 := keep h2 b0; have b1 := keep h2 b1; have b2 := keep h2 b2)
    have hE2 := Lib.hid (ext_trans hE1.out h2)
    have hC2 := Lib.hid (ext_trans h1 h2)
    have I1 := Lib.hid ((laid_ints lo1).keep h2)
    have I2 := Lib.hid (laid_ints lo2)
    clear lo1 lo2
    have s0 : w.heap.size < w2.heap.size := World.block_lt_of_cell? _ _ x0
    have s1 : w.heap.size + 1 < w2.heap.size := World.block_lt_of_cell? _ _ y0
    have s2 : pa < w2.heap.size := World.block_lt_of_cell? _ _ a0
    have s3 : pb < w2.heap.size := World.block_lt_of_cell? _ _ b0
    have hd2 : Ext w2 w2.drew := ext_drew (Below.refl _ _)
    have q1 : (R1.1 != R1.1) = false := by simp
    have q2 : (R1.2.isSome != R1.2.isSome) = false := by simp
    have q3 : (P1 != P1) = false := by simp
    have q4 : (P2 != P2) = false := by simp
    clear hz hzz h1 h2
    go_cut [67] (fun v67 wd => v67 = .bool false ∧ Ext w2 wd)
    case first =>
      go_region_held3 (fun w' => ∀ b o, b < w2.heap.size → w'.cell? ⟨b, o, none⟩ = w2.cell? ⟨b, o, none⟩)
        ((intro bb oo hbb; first | rfl | exact g7.cell (p := ⟨bb, oo, none⟩) hbb | exact g6.cell (p := ⟨bb, oo, none⟩) hbb | exact g5.cell (p := ⟨bb, oo, none⟩) hbb | exact g4.cell (p := ⟨bb, oo, none⟩) hbb | exact g3.cell (p := ⟨bb, oo, none⟩) hbb))
        (first
          | (go_at_call 13; (with_reducible refine (c_num _ _).mono ?_); rintro e w' ⟨rfl, rfl⟩)
          | (go_at_call 19; (with_reducible refine (c_ints_same (laidInts r s) _ _ _ _ _ _ _ (I1.out.keep hd2) (I2.out.keep hd2)).mono ?_); rintro e w3 ⟨rfl, h3⟩; have g3 := ext_trans hd2 h3)
          | (go_at_call 15; (with_reducible refine (c_Plain r _ _ _ _ _ _ _ (HA.out.keep (ext_trans hC2.out g3))).mono ?_); rw [EP.out]; rintro e w4 ⟨rfl, h4⟩; have g4 := ext_trans g3 h4)
          | (go_at_call 20; (with_reducible refine (c_dPlain r _ _ _ _ _ _ _ (HR.out.keep (ext_trans hE2.out g4))).mono ?_); rw [EP.out]; rintro e w5 ⟨rfl, h5⟩; have g5 := ext_trans g4 h5)
          | (go_at_call 15; (with_reducible refine (c_Plain s _ _ _ _ _ _ _ (HB.out.keep (ext_trans hC2.out g5))).mono ?_); rw [EQ.out]; rintro e w6 ⟨rfl, h6⟩; have g6 := ext_trans g5 h6)
          | (go_at_call 20; (with_reducible refine (c_dPlain s _ _ _ _ _ _ _ (HS.out.keep (ext_trans hE2.out g6))).mono ?_); rw [EQ.out]; rintro e w7 ⟨rfl, h7⟩; have g7 := ext_trans g6 h7)
          | fail)
      all_goals
        go_wp2
        go_meet
        exact ⟨rfl, g7⟩
    case rest =>
      obtain ⟨rfl, h3⟩ := hcut
      have x0 := keep h3 x0
      have x1 := keep h3 x1
      have x2 := keep h3 x2
      have y0 := keep h3 y0
      have y1 := keep h3 y1
      have y2 := keep h3 y2
      have a0 := keep h3 a0
      have a1 := keep h3 a1
      have a2 := keep h3 a2
      have b0 := keep h3 b0
      have b1 := keep h3 b1
      have b2 := keep h3 b2
      have hE3 := Lib.hid (ext_trans hE2.out h3)
      have hC3 := Lib.hid (ext_trans hC2.out h3)
      clear h3 q1 q2 q3 q4 s0 s1 s2 s3 hd2
      go_upto_region 7 with (go_at_call 16; (with_reducible refine (c_Within r s _ _ _ _ _ _ _ _ _ _ _ _ _ (HA.out.keep hC3.out) (HB.out.keep hC3.out)).mono ?_); rw [ER.out]; rintro e w4 ⟨rfl, h4⟩; have x0 := keep h4 x0; have x1 := keep h4 x1; have x2 := keep h4 x2; have y0 := keep h4 y0; have y1 := keep h4 y1; have y2 := keep h4 y2; have a0 := keep h4 a0; have a1 := keep h4 a1; have a2 := keep h4 a2; have b0 := keep h4 b0; have b1 := keep h4 b1; have b2 := keep h4 b2)
      have hE4 := Lib.hid (ext_trans hE3.out h4)
      have hC4 := Lib.hid (ext_trans hC3.out h4)
      go_upto_region 8 with (go_at_call 21; (with_reducible refine (c_dWithin r s _ _ _ _ _ _ _ _ _ _ _ _ w4 (HR.out.keep hE4.out) (HS.out.keep hE4.out)).mono ?_); rw [ER.out]; rintro e w5 ⟨rfl, h5⟩; have x0 := keep h5 x0; have x1 := keep h5 x1; have x2 := keep h5 x2; have y0 := keep h5 y0; have y1 := keep h5 y1; have y2 := keep h5 y2; have a0 := keep h5 a0; have a1 := keep h5 a1; have a2 := keep h5 a2; have b0 := keep h5 b0; have b1 := keep h5 b1; have b2 := keep h5 b2)
      have hE5 := Lib.hid (ext_trans hE4.out h5)
      have hC5 := Lib.hid (ext_trans hC4.out h5)
      go_upto_region 9 with (go_at_call 22; (with_reducible refine (c_SameC r s _ _ _ _ _ _ _ _ _ _ _ _ w5 (HA.out.keep hC5.out) (HB.out.keep hC5.out)).mono ?_); rw [ES.out]; rintro e w6 ⟨rfl, h6⟩; have x0 := keep h6 x0; have x1 := keep h6 x1; have x2 := keep h6 x2; have y0 := keep h6 y0; have y1 := keep h6 y1; have y2 := keep h6 y2; have a0 := keep h6 a0; have a1 := keep h6 a1; have a2 := keep h6 a2; have b0 := keep h6 b0; have b1 := keep h6 b1; have b2 := keep h6 b2)
      have hE6 := Lib.hid (ext_trans hE5.out h6)
      have hC6 := Lib.hid (ext_trans hC5.out h6)
      go_upto_region 10 with (go_at_call 23; (with_reducible refine (c_dSame r s _ _ _ _ _ _ _ _ _ _ _ _ w6 (HR.out.keep hE6.out) (HS.out.keep hE6.out)).mono ?_); rw [ES.out]; rintro e w7 ⟨rfl, h7⟩; have x0 := keep h7 x0; have x1 := keep h7 x1; have x2 := keep h7 x2; have y0 := keep h7 y0; have y1 := keep h7 y1; have y2 := keep h7 y2; have a0 := keep h7 a0; have a1 := keep h7 a1; have a2 := keep h7 a2; have b0 := keep h7 b0; have b1 := keep h7 b1; have b2 := keep h7 b2)
      have hE7 := Lib.hid (ext_trans hE6.out h7)
      have hC7 := Lib.hid (ext_trans hC6.out h7)
      clear h4 h5 h6 h7
      have q1 : (R1.1 == R1.1) = true := by simp
      have q2 : (R1.2.isSome == R1.2.isSome) = true := by simp
      have q3 : (S1.1 == S1.1) = true := by simp
      have q4 : (S1.2 == S1.2) = true := by simp
      go_wp2_with (first
        | (go_at_call 13; (with_reducible refine (c_num _ _).mono ?_); rintro e wn ⟨rfl, hwn⟩; obtain rfl := hwn.symm)
        | (go_at_call 24; (with_reducible refine (c_stays r gh nh c1 gb nb c2 _ _ _ _ _ _ _ w7 (HOA.out.ext hC7.out) (HA.out.keep hC7.out) (HR.out.keep hE7.out)).mono ?_); rintro e w8 ⟨rfl, h8⟩; have x0 := keep h8 x0; have x1 := keep h8 x1; have x2 := keep h8 x2; have y0 := keep h8 y0; have y1 := keep h8 y1; have y2 := keep h8 y2; have a0 := keep h8 a0; have a1 := keep h8 a1; have a2 := keep h8 a2; have b0 := keep h8 b0; have b1 := keep h8 b1; have b2 := keep h8 b2)
        | (go_at_call 24; (with_reducible refine (c_stays s gh' nh' c1' gb' nb' c2' _ _ _ _ _ _ _ w8 (HOB.out.ext (ext_trans hC7.out h8)) (HB.out.keep (ext_trans hC7.out h8)) (HS.out.keep (ext_trans hE7.out h8))).mono ?_); rintro e w9 ⟨rfl, h9⟩))
      go_returns
      exact ⟨rfl, ext_trans hE7.out (ext_trans h8 h9)⟩
end Go.Proofs.Ytcphjfggjjonpaa
