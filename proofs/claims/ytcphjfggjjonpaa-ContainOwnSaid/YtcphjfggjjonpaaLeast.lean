/- The walk of the law ContainLeast. -/
import Derived.Test.YtcphjfggjjonpaaSpoil
namespace Go.Proofs.Ytcphjfggjjonpaa
open Go.ChangeShapes Go.WideShapes Go.ChangeAt Go.RowKit
theorem NewR.same {w w' : World} {lo : Nat} {x : Nat → Prop} {r : Rule} {ah : Option Addr} {nh ch : Nat} {ab : Option Addr} {nb cb : Nat} (h : NewR w lo x r ah nh ch ab nb cb) {hi : Nat} (hl : hi ≤ lo) (hs : HeapSame hi w.heap.size w w') : NewR w' lo x r ah nh ch ab nb cb := by
  obtain ⟨ps, h1, h2, h3, h4⟩ := h.body
  have hs' : HeapSame lo w.heap.size w w' := fun b b1 b2 => hs b (by omega) b2
  exact ⟨own_same h.head (Nat.le_refl _) hs', ps, h1, own_same h2 (Nat.le_refl _) hs', fun p hp => own_same (h3 p hp) (Nat.le_refl _) hs', h4⟩
theorem HeapSame.cell {hi : Nat} {w w' : World} (h : HeapSame hi w.heap.size w w') {b o : Nat} {v : Value} (hb : hi ≤ b) (hc : w.cell? ⟨b, o, none⟩ = some v) : w'.cell? ⟨b, o, none⟩ = some v := by
  rw [← hc]
  exact World.cell?_of_block (h b hb (World.block_lt_of_cell? w ⟨b, o, none⟩ hc))
theorem c_SameR_self (a : Rule) (ah : Option Addr) (nh ch : Nat) (ab : Option Addr) (nb cb : Nat) (ah' : Option Addr) (nh' ch' : Nat) (ab' : Option Addr) (nb' cb' : Nat) (w : World) (ha : RuleV w a ah nh ch ab nb cb) (ho : RuleV w a ah' nh' ch' ab' nb' cb') :
    Calls Try.prog 31 #[.agg #[.string a.head.pred, .slice ah nh ch, .slice ab nb cb], .agg #[.string a.head.pred, .slice ah' nh' ch', .slice ab' nb' cb']] w fun e w' => e = .returned (.bool true) ∧ Ext w w' :=
  (c_SameR a a ah nh ch ab nb cb ah' nh' ch' ab' nb' cb' w ha ho).mono fun e w' h => ⟨by rw [h.1]; simp, h.2⟩
set_option maxRecDepth 20000 in
set_option maxHeartbeats 4000000 in
theorem c_least (r : Rule) (ah : Option Addr) (nh ch : Nat) (ab : Option Addr) (nb cb : Nat) (w : World) (hr : RuleV w r ah nh ch ab nb cb) :
    Calls Try.prog 7 #[.agg #[.string r.head.pred, .slice ah nh ch, .slice ab nb cb]] w fun e w' => e = .returned (.bool true) ∧ Ext w w' := by
  have HR := Lib.hid hr
  have HB := Lib.hid (RuleB.of hr)
  clear hr
  go_enter Try.func7, Try.ntmps7
  go_upto_region 1 with (fail)
  refine wp_gen (fun W hW => ?_)
  have hb0 : Ext w W := by rw [hW]; go_grown
  have x0 : W.cell? ⟨w.heap.size, 0, none⟩ = some (.string r.head.pred) := by rw [hW]; go_simp
  have x1 : W.cell? ⟨w.heap.size, 1, none⟩ = some (.slice ah nh ch) := by rw [hW]; go_simp
  have x2 : W.cell? ⟨w.heap.size, 2, none⟩ = some (.slice ab nb cb) := by rw [hW]; go_simp
  clear hW
  go_upto_region 2 with (go_at_call 12; (with_reducible refine (c_own r _ _ _ _ _ _ _ (HR.out.keep hb0)).mono ?_); rintro e w1 ⟨g1, c1, g2, c2, rfl, O1, h1⟩)
  refine wp_gen (fun W1 hW1 => ?_)
  have e1 : Ext w1 W1 := by rw [hW1]; exact ext_alloc (Below.refl _ _) _
  have s1 : W1.heap.size = w1.heap.size + 1 := by rw [hW1]; simp
  have a0 : W1.cell? ⟨w1.heap.size, 0, none⟩ = some (.string r.head.pred) := by rw [hW1]; go_simp
  have a1 : W1.cell? ⟨w1.heap.size, 1, none⟩ = some (.slice (some ⟨g1, 0, none⟩) nh c1) := by rw [hW1]; go_simp
  have a2 : W1.cell? ⟨w1.heap.size, 2, none⟩ = some (.slice (some ⟨g2, 0, none⟩) nb c2) := by rw [hW1]; go_simp
  have x0 := keep (ext_trans h1 e1) x0
  have x1 := keep (ext_trans h1 e1) x1
  have x2 := keep (ext_trans h1 e1) x2
  have hE1 := Lib.hid (ext_trans (ext_trans hb0 h1) e1)
  have HA := Lib.hid ((O1.rule HR.out).keep e1)
  have OA := Lib.hid O1
  have S1 := Lib.hid s1
  have EE1 := Lib.hid e1
  have HH0 := hb0.size
  have HH1 := h1.size
  obtain ⟨pa, hpa⟩ : ∃ b, b = w1.heap.size := ⟨_, rfl⟩
  rw [← hpa] at a0 a1 a2 ⊢
  have HPA := Lib.hid hpa
  clear hW1 O1 s1 h1 hb0 e1 hpa
  obtain ⟨M, hM⟩ : ∃ M, minimal r = M := ⟨_, rfl⟩
  have HM := Lib.hid hM
  clear hM
  go_upto_region 3 with (go_at_call 29; (with_reducible refine (c_MinimalN r _ _ _ _ _ _ W1 HA.out).mono ?_); rw [HM.out]; rintro e w2 ⟨a3, n3, c3, b3, m3, k3, rfl, R3, N3, h2⟩)
  refine wp_gen (fun W2 hW2 => ?_)
  have e2 : Ext w2 W2 := by rw [hW2]; exact ext_alloc (Below.refl _ _) _
  have b0 : W2.cell? ⟨w2.heap.size, 0, none⟩ = some (.string (M.2.getD noRule).head.pred) := by rw [hW2]; go_simp
  have b1 : W2.cell? ⟨w2.heap.size, 1, none⟩ = some (.slice a3 n3 c3) := by rw [hW2]; go_simp
  have b2 : W2.cell? ⟨w2.heap.size, 2, none⟩ = some (.slice b3 m3 k3) := by rw [hW2]; go_simp
  have k2 := ext_trans h2 e2
  have x0 := keep k2 x0
  have x1 := keep k2 x1
  have x2 := keep k2 x2
  have a0 := keep k2 a0
  have a1 := keep k2 a1
  have a2 := keep k2 a2
  have hE2 := Lib.hid (ext_trans hE1.out k2)
  have HG := Lib.hid (R3.keep e2)
  have NG := Lib.hid (N3.ext e2)
  have HBM := Lib.hid (RuleB.of R3)
  have K2 := Lib.hid k2
  have LB := Lib.hid h2.size
  obtain ⟨pb, hpb⟩ : ∃ b, b = w2.heap.size := ⟨_, rfl⟩
  rw [← hpb] at b0 b1 b2 ⊢
  have HPB := Lib.hid hpb
  clear hW2 e2 k2 R3 N3 h2 hpb
  go_upto_region 4 with (go_at_call 30; (with_reducible refine (c_dMinimal r _ _ _ _ _ _ W2 (HR.out.keep hE2.out)).mono ?_); rw [HM.out]; rintro e w3 ⟨a4, n4, c4, b4, m4, k4, rfl, R4, N4, h3⟩)
  refine wp_gen (fun W3 hW3 => ?_)
  have e3 : Ext w3 W3 := by rw [hW3]; exact ext_alloc (Below.refl _ _) _
  have d0 : W3.cell? ⟨w3.heap.size, 0, none⟩ = some (.string (M.2.getD noRule).head.pred) := by rw [hW3]; go_simp
  have d1 : W3.cell? ⟨w3.heap.size, 1, none⟩ = some (.slice a4 n4 c4) := by rw [hW3]; go_simp
  have d2 : W3.cell? ⟨w3.heap.size, 2, none⟩ = some (.slice b4 m4 k4) := by rw [hW3]; go_simp
  have kk := ext_trans h3 e3
  have x0 := keep kk x0
  have x1 := keep kk x1
  have x2 := keep kk x2
  have a0 := keep kk a0
  have a1 := keep kk a1
  have a2 := keep kk a2
  have b0 := keep kk b0
  have b1 := keep kk b1
  have b2 := keep kk b2
  have hE3 := Lib.hid (ext_trans hE2.out kk)
  have HW := Lib.hid (R4.keep e3)
  have NW := Lib.hid (N4.ext e3)
  have HG3 := Lib.hid (HG.out.keep kk)
  have NG3 := Lib.hid (NG.out.ext kk)
  have KK := Lib.hid (ext_trans K2.out kk)
  have LD := Lib.hid h3.size
  have LC := Lib.hid K2.out.size
  obtain ⟨pd, hpd⟩ : ∃ b, b = w3.heap.size := ⟨_, rfl⟩
  rw [← hpd] at d0 d1 d2 ⊢
  have HPD := Lib.hid hpd
  clear hW3 e3 kk R4 N4 h3 hpd
  have q1 : (M.1 != M.1) = false := by simp
  go_upto_if 35 with (first
    | (go_at_call 13; (with_reducible refine (c_num _ _).mono ?_); rintro e wn ⟨rfl, hwn⟩; obtain rfl := hwn.symm)
    | (go_at_call 31; (with_reducible refine (c_SameR_self (M.2.getD noRule) _ _ _ _ _ _ _ _ _ _ _ _ W3 HG3.out HW.out).mono ?_); rintro e w4 ⟨rfl, h4⟩; have x0 := keep h4 x0; have x1 := keep h4 x1; have x2 := keep h4 x2; have a0 := keep h4 a0; have a1 := keep h4 a1; have a2 := keep h4 a2; have b0 := keep h4 b0; have b1 := keep h4 b1; have b2 := keep h4 b2; have d0 := keep h4 d0; have d1 := keep h4 d1; have d2 := keep h4 d2)
    | (go_at_call 24; (with_reducible refine (c_stays r g1 nh c1 g2 nb c2 _ _ _ _ _ _ _ w4 (OA.out.ext (ext_trans EE1.out (ext_trans KK.out h4))) (HA.out.keep (ext_trans KK.out h4)) (HR.out.keep (ext_trans hE3.out h4))).mono ?_); rintro e w5 ⟨rfl, h5⟩; have a0 := keep h5 a0; have a1 := keep h5 a1; have a2 := keep h5 a2; have b0 := keep h5 b0; have b1 := keep h5 b1; have b2 := keep h5 b2; have d0 := keep h5 d0; have d1 := keep h5 d1; have d2 := keep h5 d2))
  have h45 := ext_trans h4 h5
  have hE5 := Lib.hid (ext_trans hE3.out h45)
  have HG5 := Lib.hid (NG3.out.ext h45)
  have HW5 := Lib.hid (NW.out.ext h45)
  have E15 := Lib.hid (ext_trans EE1.out (ext_trans KK.out h45))
  clear h4 h5 h45
  have SP := Lib.hid (c_spoil r g1 nh c1 g2 nb c2 W.heap.size w1.heap.size w1 w5 OA.out rfl E15.out HR.out.terms.2.1 HR.out.body.2.1 HR.out.body.1 (fun l hl => (HB.out.lits l hl).1) HR.out.terms.1)
  go_upto_region 7 with (go_at_call 28; (with_reducible refine SP.out.mono ?_); rintro e w6 ⟨rfl, hlow, hhi⟩)
  have b0 := hhi.cell (by rw [HPB.out]; exact Nat.le_trans (by have := S1.out; omega) LB.out) b0
  have b1 := hhi.cell (by rw [HPB.out]; exact Nat.le_trans (by have := S1.out; omega) LB.out) b1
  have b2 := hhi.cell (by rw [HPB.out]; exact Nat.le_trans (by have := S1.out; omega) LB.out) b2
  have ld : w1.heap.size ≤ pd := by rw [HPD.out]; exact Nat.le_trans (by have := S1.out; have := LC.out; omega) LD.out
  have d0 := hhi.cell ld d0
  have d1 := hhi.cell ld d1
  have d2 := hhi.cell ld d2
  have HG6 := Lib.hid ((HG5.out.same (by have := S1.out; omega) hhi).rule HBM.out)
  have HW6 := Lib.hid ((HW5.out.same (by have := S1.out; have := LC.out; omega) hhi).rule HBM.out)
  have FIN := Lib.hid (hE5.out.trans (hlow.mono HH0))
  clear hlow hhi
  go_wp2_with (go_at_call 31; (with_reducible refine (c_SameR_self (M.2.getD noRule) _ _ _ _ _ _ _ _ _ _ _ _ w6 HG6.out HW6.out).mono ?_); rintro e w7 ⟨rfl, h7⟩)
  go_returns
  exact ⟨rfl, ext_trans FIN.out h7⟩
end Go.Proofs.Ytcphjfggjjonpaa
