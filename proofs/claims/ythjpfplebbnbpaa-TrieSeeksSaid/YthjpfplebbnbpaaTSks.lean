/- The walk of the law TrieSeeks: whatever the rows, the order, the script and the text, it returns true, and nothing old is touched. -/
import Derived.Test.YthjpfplebbnbpaaTAll
import Derived.Test.YthjpfplebbnbpaaKeyQ
import Derived.Test.YthjpfplebbnbpaaSks
import Derived.Test.YthjpfplebbnbpaaCurL
import Derived.Deep.CutBlock
namespace Go.Proofs.Ythjpfplebbnbpaa
open Go.ChangeShapes Go.WideShapes Go.ChangeAt Go.RowKit
/-- Where the last span of the cursor's row begins, read from memory: for measures. -/
def atOf (W : World) (g k : Nat) : Nat := match W.cell? ⟨g, k * 2, none⟩ with
  | some (.int _ i) => i.toNat
  | _ => 0
theorem CurV.atOf {w : World} {lo pc pt g : Nat} {pre : List (Nat × Nat)} {f t : Nat} (h : CurV w lo pc pt (some g) (pre ++ [(f, t)])) : atOf w g pre.length = f := by
  obtain ⟨g', c, e, _, _, _, _, z0, _⟩ := h.last
  cases e
  unfold Go.Proofs.Ythjpfplebbnbpaa.atOf
  rw [z0]
  simp
set_option maxRecDepth 100000 in
set_option maxHeartbeats 8000000 in
theorem c_trieSeeks (x : CaseV) (rows : List (List ByteArray)) (os : List Int) (ops : List OpM) (so : Option Addr) (sn sc : Nat) (text : ByteArray) (w : World) (h : CaseAt w x rows os) (hs : OpsAt w so sn ops) :
    Calls Try.prog 4 #[x.v, .slice so sn sc, .string text] w fun e w' => e = .returned (.bool true) ∧ Ext w w' := by
  have AW := Lib.hid c_awake
  have GR : Hid (∀ w1, Calls Try.prog 7 #[x.v] w1 fun e w' => e = .returned (.bool (decide (400 < x.rn))) ∧ Ext w1 w') := fun w1 => c_great x w1
  have HC := Lib.hid h
  have HS := Lib.hid hs
  by_cases hg : 400 < x.rn ∨ 400 < sn
  · obtain ⟨g, hgg⟩ : ∃ g, decide (400 < x.rn) = g := ⟨_, rfl⟩
    rw [hgg] at GR
    have hgs : g = false → (400 : Int) < (sn : Int) := fun e => by
      rw [e] at hgg
      have := of_decide_eq_false hgg
      omega
    obtain ⟨ar0, ra, rn, rc, oa, on, oc⟩ := x
    unfold CaseV.v at GR ⊢
    dsimp only at GR ⊢
    clear h hs hg hgg
    go_enter Try.func4, Try.ntmps4
    go_upto_region 3 with (go_at_call 6; (with_reducible refine (AW.out _).mono ?_); rintro e w1 ⟨rfl, E1⟩)
    refine wp_gen (fun W1 hW1 => ?_)
    have e1 : Hid (Ext w W1) := by show Ext _ _; rw [hW1]; exact ext_trans (ext_alloc (Below.refl _ _) _) E1
    have x0 : W1.cell? ⟨w.heap.size, 0, none⟩ = some (.int .i64 ar0) := by rw [hW1]; exact keep E1 (by go_simp)
    have x1 : W1.cell? ⟨w.heap.size, 1, none⟩ = some (.slice ra rn rc) := by rw [hW1]; exact keep E1 (by go_simp)
    have x2 : W1.cell? ⟨w.heap.size, 2, none⟩ = some (.slice oa on oc) := by rw [hW1]; exact keep E1 (by go_simp)
    clear hW1
    cases g with
    | true =>
      clear hgs
      go_wp2_with (go_at_call 7; (with_reducible refine (GR.out _).mono ?_); rintro e w2 ⟨rfl, E2⟩)
      go_returns
      exact ⟨rfl, ext_trans e1.out E2⟩
    | false =>
      have hsi := hgs rfl
      clear hgs
      go_wp2_with (go_at_call 7; (with_reducible refine (GR.out _).mono ?_); rintro e w2 ⟨rfl, E2⟩)
      go_returns
      exact ⟨rfl, ext_trans e1.out E2⟩
  · have hg2 : x.rn ≤ 400 := by omega
    have hsn : sn ≤ 400 := by omega
    rw [decide_eq_false (by omega : ¬ 400 < x.rn)] at GR
    have hrl : rows.length = x.rn := h.rows.1
    have FR : Hid (∀ w1, Ext w w1 → Calls Try.prog 8 #[x.v] w1 fun e w' => Ext w1 w' ∧ ∃ p, e = .returned (.tuple #[.pointer p, .bool true]) ∧ (p = none ∨ ∃ (pt d : Nat) (ways : List (List ByteArray)), p = some ⟨pt, 0, none⟩ ∧ d ≤ 64 ∧ TrieV w' pt d ways ∧ Ways d ways ∧ ways.length ≤ 400)) := fun w1 h1 => (c_from x rows os w1 (HC.out.keep h1) hg2).mono fun e w' ⟨r1, r2⟩ => ⟨r1, by
      rcases r2 with rfl | ⟨ar, pt, ways, rfl, s1, s2, s3, _, _, s4, s5, s6, s7⟩
      · exact ⟨none, rfl, .inl rfl⟩
      · exact ⟨_, rfl, .inr ⟨pt, os.length, ways, rfl, by have := s3.len; omega, s4, s5, by have := (rowsM_facts ar rows).2.2; omega⟩⟩⟩
    obtain ⟨ar0, ra, rn, rc, oa, on, oc⟩ := x
    unfold CaseV.v at GR FR ⊢
    dsimp only at GR FR hrl ⊢
    have hsi : ¬ (400 : Int) < (sn : Int) := by omega
    clear h hs hg hg2
    go_enter Try.func4, Try.ntmps4
    go_upto_region 3 with (go_at_call 6; (with_reducible refine (AW.out _).mono ?_); rintro e w1 ⟨rfl, E1⟩)
    refine wp_gen (fun W1 hW1 => ?_)
    have e1 : Ext w W1 := by rw [hW1]; exact ext_trans (ext_alloc (Below.refl _ _) _) E1
    have x0 : W1.cell? ⟨w.heap.size, 0, none⟩ = some (.int .i64 ar0) := by rw [hW1]; exact keep E1 (by go_simp)
    have x1 : W1.cell? ⟨w.heap.size, 1, none⟩ = some (.slice ra rn rc) := by rw [hW1]; exact keep E1 (by go_simp)
    have x2 : W1.cell? ⟨w.heap.size, 2, none⟩ = some (.slice oa on oc) := by rw [hW1]; exact keep E1 (by go_simp)
    clear hW1
    go_upto_region 6 with (first
      | (go_at_call 7; (with_reducible refine (GR.out _).mono ?_); rintro e w2 ⟨rfl, E2⟩; have y0 := keep E2 x0; have y1 := keep E2 x1; have y2 := keep E2 x2)
      | (go_at_call 8; (with_reducible refine (FR.out _ (ext_trans e1 E2)).mono ?_); rintro e w3 ⟨E3, p, rfl, hp⟩))
    have eqn := nil_eqT
    have eqp := ptr_eqT
    have e3 : Ext w w3 := ext_trans e1 (ext_trans E2 E3)
    rcases hp with rfl | ⟨pt, d, ways, rfl, hd64, tv, hw, hN⟩
    · go_wp2
      go_returns
      exact ⟨rfl, e3⟩
    · have TV := Lib.hid tv
      have HW := Lib.hid hw
      have E3h := Lib.hid e3
      have WK : Hid (∀ W, Ext w3 W → Calls Try.prog 22 #[.pointer (some ⟨pt, 0, none⟩), .slice so sn sc] W (WkdPost d ways pt ops W)) := fun W hW => c_walked pt d ways ops so sn sc W (TV.out.ext hW) HW.out (HS.out.keep (ext_trans E3h.out hW)) hd64 (by omega)
      have OKR := Lib.hid (runM_ok HW.out (ops.map OpM.p))
      obtain ⟨sp, hsp⟩ : ∃ sp, runM d ways (ops.map OpM.p) = sp := ⟨_, rfl⟩
      unfold WkdPost at WK
      rw [hsp] at WK OKR
      clear tv hw x0 x1 x2 y0 y1 y2 E1 E2 E3 e1 e3 FR GR AW hsp
      go_upto_region 9 with (go_at_call 22; (with_reducible refine (WK.out _ (Below.refl _ _)).mono ?_); rintro e w4 ⟨E4, r1, rfl, c4⟩)
      go_upto_region 10 with (go_at_call 22; (with_reducible refine (WK.out _ E4).mono ?_); rintro e w5 ⟨E5, r2, rfl, c5⟩)
      go_upto_region 11 with (go_at_call 22; (with_reducible refine (WK.out _ (ext_trans E4 E5)).mono ?_); rintro e w6 ⟨E6, r3, rfl, c6⟩)
      have C1 := Lib.hid (c4.ext (ext_trans E5 E6))
      have C2 := Lib.hid (c5.ext E6)
      have C3 := Lib.hid c6
      have L1 := Lib.hid c4.top_lt
      have L2 := Lib.hid c5.top_lt
      have EX := Lib.hid (ext_trans E4 (ext_trans E5 E6))
      have ZZ : Hid (w3.heap.size ≤ w4.heap.size ∧ w4.heap.size ≤ w5.heap.size) := ⟨E4.size, E5.size⟩
      obtain ⟨pc1, hpc1⟩ : ∃ pc, w3.heap.size = pc := ⟨_, rfl⟩
      obtain ⟨pc2, hpc2⟩ : ∃ pc, w4.heap.size = pc := ⟨_, rfl⟩
      obtain ⟨pc3, hpc3⟩ : ∃ pc, w5.heap.size = pc := ⟨_, rfl⟩
      have P1 := Lib.hid hpc1
      rw [hpc1] at C1 L1 ZZ ⊢
      rw [hpc2] at C2 L1 L2 ZZ ⊢
      rw [hpc3] at C3 L2 ZZ ⊢
      clear c4 c5 c6 E4 E5 E6 hpc1 hpc2 hpc3 WK
      have TV6 : Hid (∀ W, Ext w6 W → TrieV W pt d ways) := fun W hW => TV.out.ext (ext_trans EX.out hW)
      have AT1 : Hid (∀ W, Ext w6 W → Calls Try.prog 12 #[.pointer (some ⟨pc1, 0, none⟩)] W fun e w' => e = .returned (.int .i64 (sp.length : Nat)) ∧ w' = W) := fun W hW => c_at pc1 pt pc1 r1 sp W (C1.out.ext hW)
      have AT2 : Hid (∀ W, Ext w6 W → Calls Try.prog 12 #[.pointer (some ⟨pc2, 0, none⟩)] W fun e w' => e = .returned (.int .i64 (sp.length : Nat)) ∧ w' = W) := fun W hW => c_at pc2 pt pc2 r2 sp W (C2.out.ext hW)
      have AE1 : Hid (∀ W, Ext w6 W → Calls Try.prog 10 #[.pointer (some ⟨pc1, 0, none⟩)] W fun e w' => e = .returned (.bool (endB sp)) ∧ Ext w6 w') := fun W hW => (c_atEnd pc1 pt pc1 r1 sp W (C1.out.ext hW)).mono fun e w' ⟨h1, q, h2⟩ => ⟨h1, by rw [h2]; exact ext_drewN hW q⟩
      have AE2 : Hid (∀ W, Ext w6 W → Calls Try.prog 10 #[.pointer (some ⟨pc2, 0, none⟩)] W fun e w' => e = .returned (.bool (endB sp)) ∧ Ext w6 w') := fun W hW => (c_atEnd pc2 pt pc2 r2 sp W (C2.out.ext hW)).mono fun e w' ⟨h1, q, h2⟩ => ⟨h1, by rw [h2]; exact ext_drewN hW q⟩
      by_cases hno : sp = [] ∨ endB sp = true
      · have SK1 : Hid (∀ W, Ext w6 W → Calls Try.prog 23 #[.pointer (some ⟨pc1, 0, none⟩), .string text] W fun e w' => e = .returned (.bool false) ∧ Ext w6 w') := fun W hW => (c_seek_no pc1 pt pc1 r1 sp text W (C1.out.ext hW) hno).mono fun e w' ⟨h1, h2⟩ => ⟨h1, ext_trans hW h2⟩
        have NX1 : Hid (∀ W, Ext w6 W → Calls Try.prog 13 #[.pointer (some ⟨pc1, 0, none⟩)] W fun e w' => e = .returned (.bool false) ∧ Ext w6 w') := fun W hW => (c_next_no pc1 pt pc1 r1 sp W (C1.out.ext hW) hno).mono fun e w' ⟨h1, h2⟩ => ⟨h1, ext_trans hW h2⟩
        obtain ⟨n, hn⟩ : ∃ n, sp.length = n := ⟨_, rfl⟩
        obtain ⟨b, hb⟩ : ∃ b, endB sp = b := ⟨_, rfl⟩
        rw [hn] at AT1 AT2
        rw [hb] at AE1 AE2
        obtain ⟨z, hz⟩ : ∃ z, ((n : Int) == 0) = z := ⟨_, rfl⟩
        have hzb : z = false → b = true := fun e => by
          rcases hno with h | h
          · subst h
            simp at hn
            subst hn
            rw [e] at hz
            simp at hz
          · rw [← hb, h]
        have FIN := Lib.hid (ext_trans E3h.out EX.out)
        clear hno hn hb
        have B0 : Hid (Ext w6 w6) := Below.refl _ _
        cases z with
        | true =>
          clear hzb
          cases b with
          | true =>
            go_wp2_with (first
              | (go_at_call 12; (with_reducible refine (AT1.out _ B0.out).mono ?_); rintro e w7 ⟨rfl, hw7⟩; obtain rfl := hw7.symm)
              | (go_at_call 23; (with_reducible refine (SK1.out _ B0.out).mono ?_); rintro e w8 ⟨rfl, E8⟩)
              | (go_at_call 13; (with_reducible refine (NX1.out _ E8).mono ?_); rintro e w9 ⟨rfl, E9⟩)
              | (go_at_call 12; (with_reducible refine (AT1.out _ E9).mono ?_); rintro e w10 ⟨rfl, hw10⟩; obtain rfl := hw10.symm)
              | (go_at_call 12; (with_reducible refine (AT2.out _ E9).mono ?_); rintro e w11 ⟨rfl, hw11⟩; obtain rfl := hw11.symm)
              | (go_at_call 10; (with_reducible refine (AE1.out _ E9).mono ?_); rintro e w12 ⟨rfl, E12⟩)
              | (go_at_call 10; (with_reducible refine (AE2.out _ E12).mono ?_); rintro e w13 ⟨rfl, E13⟩))
            go_returns
            exact ⟨rfl, ext_trans FIN.out E13⟩
          | false =>
            go_wp2_with (first
              | (go_at_call 12; (with_reducible refine (AT1.out _ B0.out).mono ?_); rintro e w7 ⟨rfl, hw7⟩; obtain rfl := hw7.symm)
              | (go_at_call 23; (with_reducible refine (SK1.out _ B0.out).mono ?_); rintro e w8 ⟨rfl, E8⟩)
              | (go_at_call 13; (with_reducible refine (NX1.out _ E8).mono ?_); rintro e w9 ⟨rfl, E9⟩)
              | (go_at_call 12; (with_reducible refine (AT1.out _ E9).mono ?_); rintro e w10 ⟨rfl, hw10⟩; obtain rfl := hw10.symm)
              | (go_at_call 12; (with_reducible refine (AT2.out _ E9).mono ?_); rintro e w11 ⟨rfl, hw11⟩; obtain rfl := hw11.symm)
              | (go_at_call 10; (with_reducible refine (AE1.out _ E9).mono ?_); rintro e w12 ⟨rfl, E12⟩)
              | (go_at_call 10; (with_reducible refine (AE2.out _ E12).mono ?_); rintro e w13 ⟨rfl, E13⟩))
            go_returns
            exact ⟨rfl, ext_trans FIN.out E13⟩
        | false =>
          obtain rfl := hzb rfl
          clear hzb
          go_wp2_with (first
            | (go_at_call 12; (with_reducible refine (AT1.out _ B0.out).mono ?_); rintro e w7 ⟨rfl, hw7⟩; obtain rfl := hw7.symm)
            | (go_at_call 10; (with_reducible refine (AE1.out _ B0.out).mono ?_); rintro e w7 ⟨rfl, E7⟩)
            | (go_at_call 23; (with_reducible refine (SK1.out _ E7).mono ?_); rintro e w8 ⟨rfl, E8⟩)
            | (go_at_call 13; (with_reducible refine (NX1.out _ E8).mono ?_); rintro e w9 ⟨rfl, E9⟩)
            | (go_at_call 12; (with_reducible refine (AT1.out _ E9).mono ?_); rintro e w10 ⟨rfl, hw10⟩; obtain rfl := hw10.symm)
            | (go_at_call 12; (with_reducible refine (AT2.out _ E9).mono ?_); rintro e w11 ⟨rfl, hw11⟩; obtain rfl := hw11.symm)
            | (go_at_call 10; (with_reducible refine (AE1.out _ E9).mono ?_); rintro e w12 ⟨rfl, E12⟩)
            | (go_at_call 10; (with_reducible refine (AE2.out _ E12).mono ?_); rintro e w13 ⟨rfl, E13⟩))
          go_returns
          exact ⟨rfl, ext_trans FIN.out E13⟩
      · have hsne : sp ≠ [] := fun e => hno (.inl e)
        rcases snoc_cases sp with e | ⟨pre, ⟨f, t⟩, rfl⟩
        · exact absurd e hsne
        · obtain ⟨g1, rfl⟩ : ∃ g, r1 = some g := by
            obtain ⟨g, _, e, _⟩ := C1.out.last
            exact ⟨g, e⟩
          obtain ⟨g2, rfl⟩ : ∃ g, r2 = some g := by
            obtain ⟨g, _, e, _⟩ := C2.out.last
            exact ⟨g, e⟩
          obtain ⟨g3, rfl⟩ : ∃ g, r3 = some g := by
            obtain ⟨g, _, e, _⟩ := C3.out.last
            exact ⟨g, e⟩
          obtain ⟨A, B, hcs⟩ := OKR.out.st hsne
          have F := hcs.facts HW.out pre f t rfl
          have FF := Lib.hid F
          have HCS := Lib.hid hcs
          have hft : f ≠ t := fun e => hno (.inr (by rw [endB_snoc, decide_eq_true e]))
          have hlt : f < t := by have := F.le; omega
          have htm := F.small
          have hl : (pre ++ [(f, t)]).length = pre.length + 1 := by simp
          obtain ⟨r, hr⟩ : ∃ r, skP (keysM ways pre.length ways.length) f t text = r := ⟨_, rfl⟩
          have SKF := Lib.hid (F.seekKey HW.out text hr)
          rw [hl] at AT1 AT2
          rw [endB_snoc, decide_eq_false hft] at AE1 AE2
          have KY1 : Hid (∀ W, Ext w6 W → Calls Try.prog 24 #[.pointer (some ⟨pc1, 0, none⟩)] W fun e w' => e = .returned (.string (keyAt ways pre.length (st ways pre.length f))) ∧ Ext w6 w') := fun W hW => (c_key pc1 pt pc1 g1 d ways pre f t A B W (C1.out.ext hW) (TV6.out W hW) FF.out hlt).mono fun e w' ⟨h1, h2⟩ => ⟨h1, ext_trans hW h2⟩
          have SK1 : Hid (∀ W, Ext w6 W → Calls Try.prog 23 #[.pointer (some ⟨pc1, 0, none⟩), .string text] W fun e w' => e = .returned (.bool (!decide (r = t))) ∧ CurV w' pc1 pc1 pt (some g1) (pre ++ [(r, t)]) ∧ ButS (CurB pc1 (some g1)) w6 w') := fun W hW => (c_seekC pc1 pt pc1 g1 d ways pre f t A B text W (C1.out.ext hW) (TV6.out W hW) HW.out FF.out hlt (by omega) r hr).mono fun e w' ⟨h1, h2, h3⟩ => ⟨h1, h2, ((ButS.refl _ w6).ext hW).trans h3⟩
          have q1 : ((pre.length : Int) + 1 == 0) = false := beq_eq_false_iff_ne.2 (by omega)
          have B0 : Hid (Ext w6 w6) := Below.refl _ _
          have KF : Hid (∃ kf, keyAt ways pre.length (st ways pre.length f) = kf) := ⟨_, rfl⟩
          obtain ⟨kf, hkf⟩ := KF.out
          rw [hkf] at KY1
          have HKF := Lib.hid hkf
          clear hno hsne hcs F hft hl hr hkf KF
          go_upto_block 0 with (first
            | (go_at_call 12; (with_reducible refine (AT1.out _ B0.out).mono ?_); rintro e w7 ⟨rfl, hw7⟩; obtain rfl := hw7.symm)
            | (go_at_call 10; (with_reducible refine (AE1.out _ B0.out).mono ?_); rintro e w8 ⟨rfl, E8⟩)
            | (go_at_call 24; (with_reducible refine (KY1.out _ E8).mono ?_); rintro e w9 ⟨rfl, E9⟩)
            | (go_at_call 23; (with_reducible refine (SK1.out _ E9).mono ?_); rintro e w10 ⟨rfl, c10, b10⟩))
          have X10 : Hid (Ext w w10) := step_ext (ext_trans E3h.out EX.out) (by have := P1.out; have := E3h.out.size; omega) C1.out b10
          have D2 : Hid (CurV w10 pc2 pc2 pt (some g2) (pre ++ [(f, t)])) := C2.out.buts b10 (fun b h1 h2 => by
            have := C2.out.low b h1
            have := L1.out b h2
            omega)
          have D3 : Hid (CurV w10 pc3 pc3 pt (some g3) (pre ++ [(f, t)])) := C3.out.buts b10 (fun b h1 h2 => by
            have := C3.out.low b h1
            have := L1.out b h2
            have := ZZ.out.2
            omega)
          have D1 := Lib.hid c10
          have E310 : Hid (Ext w3 w10) := step_ext EX.out (by have := P1.out; omega) C1.out b10
          have TV10 : Hid (TrieV w10 pt d ways) := TV.out.ext E310.out
          clear c10 b10 E8 E9 AT1 AT2 AE1 AE2 KY1 SK1 q1
          go_cut [] (fun wc => Ext w10 w10 ∧ ButS (CurB pc2 (some g2)) w10 wc ∧ CurV wc pc2 pc2 pt (some g2) (pre ++ [(r, t)]))
          case first =>
            go_wp2
            go_loopw [] (fun wj => ∃ j, f ≤ j ∧ j ≤ r ∧ ButS (CurB pc2 (some g2)) w10 wj ∧ CurV wj pc2 pc2 pt (some g2) (pre ++ [(j, t)])) (fun wj => t - atOf wj g2 pre.length)
            case atStart => exact ⟨f, Nat.le_refl _, SKF.out.1, ButS.refl _ _, D2.out⟩
            case round =>
              obtain ⟨j, hj1, hj2, hbt, hcv⟩ := hrel
              have BT := Lib.hid hbt
              have CV := Lib.hid hcv
              have E3r : Hid (Ext w3 wr) := ext_of_but E310.out hbt (fun b hb hh => by
                have := D2.out.low b hh
                have := P1.out
                have := ZZ.out.1
                omega)
              have TVr : Hid (∀ W, Ext wr W → TrieV W pt d ways) := fun W hW => TV.out.ext (ext_trans E3r.out hW)
              have hrt := SKF.out.2.1
              have HM := HCS.out.move pre f t j rfl (by have := FF.out.ge; omega) (by omega)
              have FJ := Lib.hid (HM.facts HW.out pre j t rfl)
              have hmu : t - atOf wr g2 pre.length = t - j := by rw [hcv.atOf]
              have HMU := Lib.hid hmu
              by_cases hjr : j < r
              · have hk := SKF.out.2.2.1 j hj1 hjr
                have KY : Hid (Calls Try.prog 24 #[.pointer (some ⟨pc2, 0, none⟩)] wr fun e w' => e = .returned (.string (keyAt ways pre.length (st ways pre.length j))) ∧ Ext wr w') := c_key pc2 pt pc2 g2 d ways pre j t A B wr hcv (TVr.out _ (Below.refl _ _)) FJ.out (by omega)
                obtain ⟨kj, hkj⟩ : ∃ kj, keyAt ways pre.length (st ways pre.length j) = kj := ⟨_, rfl⟩
                rw [hkj] at KY hk
                have hq : Op.bytesLess kj.toList text.toList = true := hk
                have AE : Hid (∀ W, Ext wr W → Calls Try.prog 10 #[.pointer (some ⟨pc2, 0, none⟩)] W fun e w' => e = .returned (.bool false) ∧ Ext wr w') := fun W hW => (c_atEnd pc2 pt pc2 (some g2) (pre ++ [(j, t)]) W (CV.out.ext hW)).mono fun e w' ⟨h1, q, h2⟩ => ⟨by rw [h1, endB_snoc, decide_eq_false (by omega)], by rw [h2]; exact ext_drewN hW q⟩
                have NX : Hid (∀ W, Ext wr W → Calls Try.prog 13 #[.pointer (some ⟨pc2, 0, none⟩)] W fun e w' => e = .returned (.bool (!decide (j + 1 = t))) ∧ CurV w' pc2 pc2 pt (some g2) (pre ++ [(j + 1, t)]) ∧ ButS (CurB pc2 (some g2)) wr w') := fun W hW => (c_next pc2 pt pc2 g2 pre j t W (CV.out.ext hW) (by omega) (by omega)).mono fun e w' ⟨h1, h2, h3⟩ => ⟨h1, h2, ((ButS.refl _ wr).ext hW).trans h3⟩
                clear hbt hcv HM hk hkj hmu
                go_wp2_with (first
                  | (go_at_call 24; (with_reducible refine KY.out.mono ?_); rintro e w11 ⟨rfl, E11⟩)
                  | (go_at_call 10; (with_reducible refine (AE.out _ E11).mono ?_); rintro e w12 ⟨rfl, E12⟩)
                  | (go_at_call 13; (with_reducible refine (NX.out _ E12).mono ?_); rintro e w13 ⟨rfl, c13, b13⟩))
                go_roundw
                case rel => exact ⟨j + 1, by omega, by omega, BT.out.trans b13, c13⟩
                case measure => rw [c13.atOf, HMU.out]; omega
              · obtain rfl : j = r := by omega
                by_cases hrt2 : j < t
                · have hk := (SKF.out.2.2.2 hrt2).1
                  have KY : Hid (Calls Try.prog 24 #[.pointer (some ⟨pc2, 0, none⟩)] wr fun e w' => e = .returned (.string (keyAt ways pre.length (st ways pre.length j))) ∧ Ext wr w') := c_key pc2 pt pc2 g2 d ways pre j t A B wr hcv (TVr.out _ (Below.refl _ _)) FJ.out hrt2
                  obtain ⟨kj, hkj⟩ : ∃ kj, keyAt ways pre.length (st ways pre.length j) = kj := ⟨_, rfl⟩
                  rw [hkj] at KY hk
                  have hq : Op.bytesLess kj.toList text.toList = false := hk
                  clear hbt hcv HM hk hkj hmu
                  go_wp2_with (go_at_call 24; (with_reducible refine KY.out.mono ?_); rintro e w11 ⟨rfl, E11⟩)
                  go_meet
                  exact ⟨Below.refl _ _, BT.out.ext E11, CV.out.ext E11⟩
                · obtain rfl : j = t := by omega
                  have KY : Hid (Calls Try.prog 24 #[.pointer (some ⟨pc2, 0, none⟩)] wr fun e w' => e = .returned (.string ⟨#[]⟩) ∧ Ext wr w') := c_key_no pc2 pt pc2 (some g2) (pre ++ [(j, j)]) wr hcv (.inr (by rw [endB_snoc, decide_eq_true rfl]))
                  have AE : Hid (∀ W, Ext wr W → Calls Try.prog 10 #[.pointer (some ⟨pc2, 0, none⟩)] W fun e w' => e = .returned (.bool true) ∧ Ext wr w') := fun W hW => (c_atEnd pc2 pt pc2 (some g2) (pre ++ [(j, j)]) W (CV.out.ext hW)).mono fun e w' ⟨h1, q, h2⟩ => ⟨by rw [h1, endB_snoc, decide_eq_true rfl], by rw [h2]; exact ext_drewN hW q⟩
                  clear hbt hcv HM hmu
                  go_wp2_with (first
                    | (go_at_call 24; (with_reducible refine KY.out.mono ?_); rintro e w11 ⟨rfl, E11⟩)
                    | (go_at_call 10; (with_reducible refine (AE.out _ E11).mono ?_); rintro e w12 ⟨rfl, E12⟩))
                  all_goals
                    go_meet
                    first
                      | exact ⟨Below.refl _ _, BT.out.ext E12, CV.out.ext E12⟩
                      | exact ⟨Below.refl _ _, BT.out.ext E11, CV.out.ext E11⟩
          case rest =>
            obtain ⟨_, hbt, hcv⟩ := hcut
            have V2 := Lib.hid hcv
            have V1 : Hid (CurV wc pc1 pc1 pt (some g1) (pre ++ [(r, t)])) := D1.out.buts hbt (fun b h1 h2 => by
              have h3 := D2.out.low b h2
              have h4 : b < pc2 := L1.out b (by
                rcases h1 with rfl | h1
                · exact .inl rfl
                · exact .inr h1)
              omega)
            have V3 : Hid (CurV wc pc3 pc3 pt (some g3) (pre ++ [(f, t)])) := D3.out.buts hbt (fun b h1 h2 => by
              have h3 := D3.out.low b h1
              have h4 := L2.out b h2
              omega)
            have Ewc : Hid (Ext w3 wc) := ext_of_but E310.out hbt (fun b hb hh => by
              have := D2.out.low b hh
              have := P1.out
              have := ZZ.out.1
              omega)
            have TVc : Hid (∀ W, Ext wc W → TrieV W pt d ways) := fun W hW => TV.out.ext (ext_trans Ewc.out hW)
            have EWC : Hid (Ext w wc) := ext_trans E3h.out Ewc.out
            have B0c : Ext wc wc := Below.refl _ _
            clear hbt hcv
            have hrt := SKF.out.2.1
            have HM := HCS.out.move pre f t r rfl (by have := FF.out.ge; have := SKF.out.1; omega) hrt
            have FR2 := Lib.hid (HM.facts HW.out pre r t rfl)
            have HMh := Lib.hid HM
            obtain ⟨ky, ks, KYA, KSA, KLT⟩ : ∃ ky ks, Hid (∀ pc g W, CurV wc pc pc pt (some g) (pre ++ [(r, t)]) → Ext wc W → Calls Try.prog 24 #[.pointer (some ⟨pc, 0, none⟩)] W fun e w' => e = .returned (.string ky) ∧ Ext wc w') ∧ Hid (∀ pc g W, CurV wc pc pc pt (some g) (pre ++ [(r, t)]) → Ext wc W → Calls Try.prog 16 #[.pointer (some ⟨pc, 0, none⟩)] W fun e w' => ∃ a n c, e = .returned (.slice a n c) ∧ StrsAt w' a n ks ∧ Ext wc w' ∧ Ext W w') ∧ Hid (r < t → Op.bytesLess ky.toList text.toList = false ∧ Op.bytesLess ky.toList kf.toList = false) := by
              by_cases hlt2 : r < t
              · refine ⟨keyAt ways pre.length (st ways pre.length r), keysOf ways (pre ++ [(r, t)]), fun pc g W hv hW => ?_, fun pc g W hv hW => ?_, fun _ => ?_⟩
                · exact (c_key pc pt pc g d ways pre r t A B W (hv.ext hW) (TVc.out W hW) FR2.out hlt2).mono fun e w' ⟨h1, h2⟩ => ⟨h1, ext_trans hW h2⟩
                · exact (c_keys pc pt pc d ways (some g) (pre ++ [(r, t)]) A B W (hv.ext hW) (TVc.out W hW) HW.out HMh.out (by rw [endB_snoc]; simp; omega) hd64 (by rw [List.length_append, List.length_singleton]; have := FR2.out.dep; omega)).mono fun e w' ⟨a, n, c, h1, h2, h3, h4⟩ => ⟨a, n, c, h1, by subst h4; exact own_strs h2 (own_len h2).1, ext_trans hW h3, h3⟩
                · have := SKF.out.2.2.2 hlt2
                  rw [HKF.out] at this
                  exact this
              · obtain rfl : r = t := by omega
                refine ⟨⟨#[]⟩, [], fun pc g W hv hW => ?_, fun pc g W hv hW => ?_, fun h => absurd h hlt2⟩
                · exact (c_key_no pc pt pc (some g) _ W (hv.ext hW) (.inr (by rw [endB_snoc, decide_eq_true rfl]))).mono fun e w' ⟨h1, h2⟩ => ⟨h1, ext_trans hW h2⟩
                · exact (c_keys_no pc pt pc (some g) _ W (hv.ext hW) (.inr (by rw [endB_snoc, decide_eq_true rfl]))).mono fun e w' ⟨a, n, c, h1, h2, h3, h4⟩ => ⟨a, n, c, h1, by subst h4; exact own_strs h2 (own_len h2).1, ext_trans hW h3, h3⟩
            have AT1c : Hid (∀ W, Ext wc W → Calls Try.prog 12 #[.pointer (some ⟨pc1, 0, none⟩)] W fun e w' => e = .returned (.int .i64 ((pre.length + 1 : Nat) : Int)) ∧ w' = W) := fun W hW => by
              have := c_at pc1 pt pc1 (some g1) (pre ++ [(r, t)]) W (V1.out.ext hW)
              rwa [show (pre ++ [(r, t)]).length = pre.length + 1 by simp] at this
            have AE1c : Hid (∀ W, Ext wc W → Calls Try.prog 10 #[.pointer (some ⟨pc1, 0, none⟩)] W fun e w' => e = .returned (.bool (decide (r = t))) ∧ Ext wc w') := fun W hW => (c_atEnd pc1 pt pc1 (some g1) (pre ++ [(r, t)]) W (V1.out.ext hW)).mono fun e w' ⟨h1, q, h2⟩ => ⟨by rw [h1, endB_snoc], by rw [h2]; exact ext_drewN hW q⟩
            have KY1c : Hid (∀ W, Ext wc W → Calls Try.prog 24 #[.pointer (some ⟨pc1, 0, none⟩)] W fun e w' => e = .returned (.string ky) ∧ Ext wc w') := fun W hW => KYA.out pc1 g1 W V1.out hW
            have KS1c : Hid (∀ W, Ext wc W → Calls Try.prog 16 #[.pointer (some ⟨pc1, 0, none⟩)] W fun e w' => ∃ a n c, e = .returned (.slice a n c) ∧ StrsAt w' a n ks ∧ Ext wc w' ∧ Ext W w') := fun W hW => KSA.out pc1 g1 W V1.out hW
            have AT2c : Hid (∀ W, Ext wc W → Calls Try.prog 12 #[.pointer (some ⟨pc2, 0, none⟩)] W fun e w' => e = .returned (.int .i64 ((pre.length + 1 : Nat) : Int)) ∧ w' = W) := fun W hW => by
              have := c_at pc2 pt pc2 (some g2) (pre ++ [(r, t)]) W (V2.out.ext hW)
              rwa [show (pre ++ [(r, t)]).length = pre.length + 1 by simp] at this
            have AE2c : Hid (∀ W, Ext wc W → Calls Try.prog 10 #[.pointer (some ⟨pc2, 0, none⟩)] W fun e w' => e = .returned (.bool (decide (r = t))) ∧ Ext wc w') := fun W hW => (c_atEnd pc2 pt pc2 (some g2) (pre ++ [(r, t)]) W (V2.out.ext hW)).mono fun e w' ⟨h1, q, h2⟩ => ⟨by rw [h1, endB_snoc], by rw [h2]; exact ext_drewN hW q⟩
            have KY2c : Hid (∀ W, Ext wc W → Calls Try.prog 24 #[.pointer (some ⟨pc2, 0, none⟩)] W fun e w' => e = .returned (.string ky) ∧ Ext wc w') := fun W hW => KYA.out pc2 g2 W V2.out hW
            have KS2c : Hid (∀ W, Ext wc W → Calls Try.prog 16 #[.pointer (some ⟨pc2, 0, none⟩)] W fun e w' => ∃ a n c, e = .returned (.slice a n c) ∧ StrsAt w' a n ks ∧ Ext wc w' ∧ Ext W w') := fun W hW => KSA.out pc2 g2 W V2.out hW
            have TX : Hid (∀ W a n c a2 n2 c2, Ext wc W → StrsAt W a n ks → StrsAt W a2 n2 ks → Calls Try.prog 25 #[.slice a n c, .slice a2 n2 c2] W fun e w' => e = .returned (.bool true) ∧ Ext wc w') := fun W a n c a2 n2 c2 hW h1 h2 => by
              have := c_texts ks ks a n c a2 n2 c2 W h1 h2
              rw [decide_eq_true rfl] at this
              exact this.mono fun e w' ⟨h3, h4⟩ => ⟨h3, ext_trans hW h4⟩
            have ykk : (ky.toList == ky.toList) = true := by simp
            clear HM hrt
            obtain ⟨kb, hkb⟩ : ∃ kb, keysOf ways (pre ++ [(f, t)]) = kb := ⟨_, rfl⟩
            obtain ⟨N, hNn⟩ : ∃ N, cntW ways pre.length f = N := ⟨_, rfl⟩
            have CP := Lib.hid (FF.out.count HW.out hlt)
            rw [hkb, hNn] at CP
            have HKB := Lib.hid hkb
            have HNN := Lib.hid hNn
            have KE : Hid (∀ W, Ext wc W → Calls Try.prog 16 #[.pointer (some ⟨pc3, 0, none⟩)] W fun e w' => ∃ a n c, e = .returned (.slice a n c) ∧ w'.ownsRow wc.heap.size 9 1 (.slice a n c) n (kb.map Value.string) ∧ n ≤ maxLen ∧ Ext wc w') := fun W hW => (c_keys pc3 pt pc3 d ways (some g3) (pre ++ [(f, t)]) A B W (V3.out.ext hW) (TVc.out W hW) HW.out HCS.out (by rw [endB_snoc]; simp; omega) hd64 (by rw [List.length_append, List.length_singleton]; have := FF.out.dep; omega)).mono fun e w' ⟨a, n, c, h1, h2, h3, h4⟩ => ⟨a, n, c, h1, by rw [← HKB.out]; exact own_base h2 hW.size, (own_len h2).1, ext_trans hW h3⟩
            have CE : Hid (∀ W, Ext wc W → Calls Try.prog 15 #[.pointer (some ⟨pc3, 0, none⟩)] W fun e w' => e = .returned (.int .i64 (N : Nat)) ∧ Ext wc w' ∧ Ext W w') := fun W hW => by
              have := c_countC pc3 pt pc3 g3 d ways pre f t A B W (V3.out.ext hW) (TVc.out W hW) HW.out FF.out hlt hd64 (by omega)
              rw [HNN.out] at this
              exact this.mono fun e w' ⟨h1, h2⟩ => ⟨h1, ext_trans hW h2, h2⟩
            have TC : Hid (∀ W a n c, TrieV W pt d ways → StrsAt W a n kb → Calls Try.prog 26 #[.pointer (some ⟨pt, 0, none⟩), .slice a n c] W fun e w' => e = .returned (.int .i64 (N : Nat)) ∧ Ext W w') := fun W a n c h1 h2 => by
              have := c_count pt d ways kb a n c W h1 HW.out h2 hd64 (by omega)
              rwa [CP.out.1] at this
            have AT3 : Hid (∀ W, Ext wc W → Calls Try.prog 12 #[.pointer (some ⟨pc3, 0, none⟩)] W fun e w' => e = .returned (.int .i64 ((pre.length + 1 : Nat) : Int)) ∧ w' = W) := fun W hW => by
              have := c_at pc3 pt pc3 (some g3) (pre ++ [(f, t)]) W (V3.out.ext hW)
              rwa [show (pre ++ [(f, t)]).length = pre.length + 1 by simp] at this
            have DP : Hid (∀ W, Ext wc W → Calls Try.prog 17 #[.pointer (some ⟨pt, 0, none⟩)] W fun e w' => e = .returned (.int .i64 (d : Nat)) ∧ w' = W) := fun W hW => c_depth pt d ways W (TVc.out W hW)
            have OPN : Hid (pre.length + 1 = d → ∀ W, Ext wc W → Calls Try.prog 14 #[.pointer (some ⟨pc3, 0, none⟩)] W fun e w' => e = .returned (.bool false) ∧ Ext wc w') := fun hd W hW => (c_open_no pc3 pt pc3 d ways (some g3) (pre ++ [(f, t)]) W (V3.out.ext hW) (TVc.out W hW) (by unfold mayOpen; rw [show (pre ++ [(f, t)]).length = pre.length + 1 by simp, decide_eq_true hd]; simp)).mono fun e w' ⟨h1, h2⟩ => ⟨h1, ext_trans hW h2⟩
            have OPY : Hid (pre.length + 1 < d → ∀ W, Ext wc W → Calls Try.prog 14 #[.pointer (some ⟨pc3, 0, none⟩)] W fun e w' => e = .returned (.bool true) ∧ ∃ go, CurV w' pc3 pc3 pt (some go) (pre ++ [(f, t)] ++ [belowS ways pre.length f]) ∧ ButS (CurB pc3 (some g3)) W w' ∧ (go = g3 ∨ W.heap.size ≤ go)) := fun hd W hW => (c_open pc3 pt pc3 g3 d ways pre f t A B W (V3.out.ext hW) (TVc.out W hW) FF.out hlt hd hd64 (by omega)).mono fun e w' ⟨h1, go, h2, h3, h4⟩ => ⟨h1, go, h2, h3, h4.imp (fun e => by cases e; rfl) id⟩
            have LOW3 : Hid (∀ b, CurB pc3 (some g3) b → w3.heap.size ≤ b ∧ b < wc.heap.size) := fun b hb => ⟨by
              have := D3.out.low b hb
              have := P1.out
              have := ZZ.out.1
              have := ZZ.out.2
              omega, V3.out.top_lt b hb⟩
            have N1 : Hid (pre.length + 1 = d → N = 1) := fun hd => by
              have h1 := FF.out.find HW.out hlt
              have h2 := h1.lt
              have h3 := st_le ways pre.length (f + 1)
              have h4 := FF.out.top
              have h5 := wid_mono ways pre.length FF.out.seg.top
              have h6 := wid_le ways pre.length ways.length
              rw [← HNN.out]
              unfold cntW
              rw [st_d HW.out (show d ≤ pre.length + 1 by omega) (show f ≤ ways.length by omega), st_d HW.out (show d ≤ pre.length + 1 by omega) (show f + 1 ≤ ways.length by omega)]
              omega
            have SN : Hid (∀ W a n c, W.ownsRow wc.heap.size 9 1 (.slice a n c) n (kb.map Value.string) → n ≤ maxLen → StrsAt W a n kb) := fun W a n c h1 h2 => own_strs h1 h2
            clear hkb hNn
            obtain ⟨tv, htv⟩ : ∃ tv, (!decide (r = t)) = tv := ⟨_, rfl⟩
            rw [htv]
            have HTV := Lib.hid htv
            clear htv
            go_upto_region 19 with fail
            go_cut [151] (fun v wk => v = .bool false ∧ Ext wc wk)
            case first =>
              by_cases hlt2 : r < t
              · have hdf : decide (r = t) = false := decide_eq_false (by omega)
                have hq1 : Op.bytesLess ky.toList text.toList = false := (KLT.out hlt2).1
                have hq2 : Op.bytesLess ky.toList kf.toList = false := (KLT.out hlt2).2
                rw [hdf] at AE1c AE2c
                obtain rfl : tv = true := by rw [← HTV.out, hdf]; rfl
                clear hdf
                go_wp2_with (first
                  | (go_at_call 10; first | ((with_reducible refine (AE1c.out _ ?hE).mono ?_); (case hE => assumption); rintro e w20 ⟨rfl, E20⟩) | ((with_reducible refine (AE2c.out _ ?hE).mono ?_); (case hE => assumption); rintro e w20 ⟨rfl, E20⟩))
                  | (go_at_call 24; first | ((with_reducible refine (KY1c.out _ ?hE).mono ?_); (case hE => assumption); rintro e w20 ⟨rfl, E20⟩) | ((with_reducible refine (KY2c.out _ ?hE).mono ?_); (case hE => assumption); rintro e w20 ⟨rfl, E20⟩))
                  | (go_at_call 12; first | ((with_reducible refine (AT1c.out _ ?hE).mono ?_); (case hE => assumption); rintro e w21 ⟨rfl, hw21⟩; obtain rfl := hw21.symm) | ((with_reducible refine (AT2c.out _ ?hE).mono ?_); (case hE => assumption); rintro e w21 ⟨rfl, hw21⟩; obtain rfl := hw21.symm))
                  | (go_at_call 16; first | ((with_reducible refine (KS1c.out _ ?hE).mono ?_); (case hE => assumption); rintro e w22 ⟨a1, n1, q1, rfl, S1, E22, F22⟩) | ((with_reducible refine (KS2c.out _ ?hE).mono ?_); (case hE => assumption); rintro e w23 ⟨a2, n2, q2, rfl, S2, E23, F23⟩))
                  | (go_at_call 25; (with_reducible refine (TX.out _ _ _ _ _ _ _ E23 (StrsAt.keep F23 S1) S2).mono ?_); rintro e w24 ⟨rfl, E24⟩))
                go_meet
                exact ⟨rfl, E20⟩
              · have hdf : decide (r = t) = true := decide_eq_true (by have := SKF.out.2.1; omega)
                rw [hdf] at AE1c AE2c
                obtain rfl : tv = false := by rw [← HTV.out, hdf]; rfl
                clear hdf
                go_wp2_with (first
                  | (go_at_call 10; first | ((with_reducible refine (AE1c.out _ ?hE).mono ?_); (case hE => assumption); rintro e w20 ⟨rfl, E20⟩) | ((with_reducible refine (AE2c.out _ ?hE).mono ?_); (case hE => assumption); rintro e w20 ⟨rfl, E20⟩))
                  | (go_at_call 24; first | ((with_reducible refine (KY1c.out _ ?hE).mono ?_); (case hE => assumption); rintro e w20 ⟨rfl, E20⟩) | ((with_reducible refine (KY2c.out _ ?hE).mono ?_); (case hE => assumption); rintro e w20 ⟨rfl, E20⟩))
                  | (go_at_call 12; first | ((with_reducible refine (AT1c.out _ ?hE).mono ?_); (case hE => assumption); rintro e w21 ⟨rfl, hw21⟩; obtain rfl := hw21.symm) | ((with_reducible refine (AT2c.out _ ?hE).mono ?_); (case hE => assumption); rintro e w21 ⟨rfl, hw21⟩; obtain rfl := hw21.symm))
                  | (go_at_call 16; first | ((with_reducible refine (KS1c.out _ ?hE).mono ?_); (case hE => assumption); rintro e w22 ⟨a1, n1, q1, rfl, S1, E22, F22⟩) | ((with_reducible refine (KS2c.out _ ?hE).mono ?_); (case hE => assumption); rintro e w23 ⟨a2, n2, q2, rfl, S2, E23, F23⟩))
                  | (go_at_call 25; (with_reducible refine (TX.out _ _ _ _ _ _ _ E23 (StrsAt.keep F23 S1) S2).mono ?_); rintro e w24 ⟨rfl, E24⟩))
                go_meet
                exact ⟨rfl, E24⟩
            case rest =>
              obtain ⟨rfl, hek⟩ := hcut
              have EK := Lib.hid hek
              clear hek
              have hft := FF.out.le
              have hN1 : ¬ (N : Int) < 1 := by have := CP.out.2; omega
              go_upto_region 23 with (go_at_call 16; (with_reducible refine (KE.out _ EK.out).mono ?_); rintro e w31 ⟨a3, n3, q3, rfl, S3, m3, E31⟩)
              have TV31 := Lib.hid (TVc.out _ E31)
              go_upto_region 25 with (first
                | (go_at_call 26; (with_reducible refine (TC.out _ _ _ _ (TV31.out.ext F32) (SN.out _ _ _ _ (up_ext S3 F32) m3)).mono ?_); rintro e w33 ⟨rfl, F33⟩)
                | (go_at_call 15; (with_reducible refine (CE.out _ E31).mono ?_); rintro e w32 ⟨rfl, E32, F32⟩)
                | (go_at_call 15; (with_reducible refine (CE.out _ (ext_trans E32 F33)).mono ?_); rintro e w34 ⟨rfl, E34, F34⟩))
              by_cases hd2 : pre.length + 1 = d
              · have OP := Lib.hid (OPN.out hd2)
                obtain rfl : N = 1 := N1.out hd2
                rw [hd2] at AT3
                go_wp2_with (first
                  | (go_at_call 14; (with_reducible refine (OP.out _ E34).mono ?_); rintro e w35 ⟨rfl, E35⟩)
                  | (go_at_call 12; (with_reducible refine (AT3.out _ E35).mono ?_); rintro e w36 ⟨rfl, hw36⟩; obtain rfl := hw36.symm)
                  | (go_at_call 17; (with_reducible refine (DP.out _ E35).mono ?_); rintro e w36 ⟨rfl, hw36⟩; obtain rfl := hw36.symm)
                  | (go_at_call 15; (with_reducible refine (CE.out _ E35).mono ?_); rintro e w37 ⟨rfl, E37, F37⟩))
                go_returns
                exact ⟨rfl, ext_trans EWC.out E37⟩
              · have hd3 : pre.length + 1 < d := by have := FF.out.dep; omega
                have OP := Lib.hid (OPY.out hd3)
                clear hd2
                go_upto_region 27 with (go_at_call 14; (with_reducible refine (OP.out _ E34).mono ?_); rintro e w35 ⟨rfl, go, c35, b35, g35⟩)
                have F31 := ext_trans F32 (ext_trans F33 F34)
                have XO : Hid (Ext w3 w35) := ext_of_but (ext_trans Ewc.out E34) b35 (fun b hb hh => by have := (LOW3.out b hh).1; omega)
                have SO := Lib.hid (b35.own (up_ext S3 F31) (fun b hb hh => by
                  have h1 := (S3.lt b hb).1
                  have h2 := (LOW3.out b hh).2
                  omega))
                have AP : Hid (∀ b, (Value.slice a3 n3 q3).ownBlock = some b → ¬ CurB pc3 (some go) b) := fun b hb hh => by
                  have h1 := (S3.lt b hb).1
                  have h2 := ((up_ext S3 F31).lt b hb).2
                  have h3 := (LOW3.out pc3 (.inl rfl)).2
                  have h4 := (LOW3.out g3 (.inr rfl)).2
                  rcases hh with rfl | hh
                  · omega
                  · cases hh
                    rcases g35 with rfl | g35
                    · omega
                    · omega
                have LOWo : Hid (∀ b, CurB pc3 (some go) b → w3.heap.size ≤ b) := fun b hb => by
                  have := c35.low b hb
                  have := P1.out
                  have := ZZ.out.1
                  have := ZZ.out.2
                  omega
                have TOPo := Lib.hid c35.top_lt
                have TVo : Hid (∀ W, Ext w35 W → TrieV W pt d ways) := fun W hW => TV.out.ext (ext_trans XO.out hW)
                have FL := Lib.hid (c_follow pt d ways kb a3 n3 q3 w35 (TVo.out _ (Below.refl _ _)) HW.out (SN.out _ _ _ _ SO.out m3) hd64 (by omega))
                unfold FolPost at FL
                have M3 := Lib.hid m3
                have C35 := Lib.hid c35
                clear c35 b35 g35 S3 E31 E32 E34 F32 F33 F34 F31 m3 OP
                go_upto_region 28 with (go_at_call 27; (with_reducible refine FL.out.mono ?_); rintro e w36 ⟨a4, n4, q4, xs, rfl, o4, E36, fol, hn4⟩)
                have hxs := FF.out.fol HW.out hlt hd3 (by rw [HKB.out]; exact fol)
                obtain ⟨A1, hA1⟩ : ∃ A1, st ways pre.length f = A1 := ⟨_, rfl⟩
                obtain ⟨B1, hB1⟩ : ∃ B1, st ways pre.length (f + 1) = B1 := ⟨_, rfl⟩
                have FO : ∀ j, wid ways (pre.length + 1) A1 ≤ j → j ≤ wid ways (pre.length + 1) B1 → CurFacts d ways (pre ++ [(f, t)]) j (wid ways (pre.length + 1) B1) A1 B1 := fun j h1 h2 => by
                  rw [← hA1, ← hB1] at *
                  exact (CurSt.more pre f t A B j HCS.out hlt hd3 h1 h2).facts HW.out _ _ _ rfl
                have C36 := C35.out.ext E36
                unfold belowS at C36
                have HNB : N = B1 - A1 := by rw [← HNN.out, ← hA1, ← hB1]; rfl
                rw [hA1, hB1] at hxs C36
                obtain ⟨pr, hpr⟩ : ∃ pr, pre ++ [(f, t)] = pr := ⟨_, rfl⟩
                have hprl : pre.length + 1 = pr.length := by rw [← hpr]; simp
                rw [hpr, hprl] at C36
                rw [hprl] at hxs
                rw [hpr, hprl] at FO
                obtain ⟨f0, hf0⟩ : ∃ f0, wid ways pr.length A1 = f0 := ⟨_, rfl⟩
                obtain ⟨t0, ht0⟩ : ∃ t0, wid ways pr.length B1 = t0 := ⟨_, rfl⟩
                rw [hf0, ht0] at FO C36
                have SG : Seg ways pr.length A1 B1 := (FO f0 (Nat.le_refl _) (by rw [← hf0, ← ht0]; exact wid_mono ways _ (Nat.le_of_lt (by have := (FF.out.find HW.out hlt).lt; rw [hA1, hB1] at this; exact this)))).seg
                have hAB : A1 < B1 := by have := (FF.out.find HW.out hlt).lt; rw [hA1, hB1] at this; exact this
                have hpos : f0 < t0 := by
                  have := SG.ndIn (Nat.le_refl _) hAB
                  omega
                have htop : t0 ≤ wid ways pr.length ways.length := by rw [← ht0]; exact wid_mono ways _ SG.top
                have hxl : xs.length = t0 - f0 := by rw [hxs, segKeys_len SG, hf0, ht0]
                have hnx : n4 = t0 - f0 := by
                  have := o4.1
                  rw [List.length_map] at this
                  omega
                have XK : Hid (∀ i, i < n4 → xs[i]? = some (keyAt ways pr.length (st ways pr.length (f0 + i)))) := fun i hi => by
                  rw [hxs, segKeys_at SG (by rw [hf0, ht0]; omega), hf0]
                have XR : Hid (∀ i x y, xs[i]? = some x → xs[i + 1]? = some y → Op.bytesLess x.toList y.toList = true) := fun i x y hx hy => by
                  have h1 := (List.getElem?_eq_some_iff.1 hy).1
                  have h2 := XK.out i (by omega)
                  have h3 := XK.out (i + 1) (by omega)
                  rw [hx] at h2
                  rw [hy] at h3
                  cases h2
                  cases h3
                  exact SG.rise HW.out (by omega) (by omega) (by omega) (by omega)
                obtain ⟨sm, hsm⟩ : ∃ sm : Nat → Nat, ∀ i, sm i = st ways pr.length (f0 + i) - st ways pr.length f0 := ⟨_, fun _ => rfl⟩
                have SM0 : Hid (sm 0 = 0) := by
                  show _ = _
                  rw [hsm, Nat.add_zero, Nat.sub_self]
                have SMS : Hid (∀ i, i < n4 → sm i + cntW ways pr.length (f0 + i) = sm (i + 1)) := fun i hi => by
                  rw [hsm, hsm]
                  exact sum_step (by omega)
                have SMN : Hid (sm n4 = N) := by
                  show _ = _
                  rw [hsm, HNB, show f0 + n4 = t0 by omega, ← hf0, ← ht0, st_wid ways _ SG.sb, st_wid ways _ SG.sa]
                have SML : Hid (∀ i, sm i ≤ 1000000) := fun i => by
                  have := st_le ways pr.length (f0 + i)
                  rw [hsm]
                  omega
                have FOh : Hid (∀ i, i ≤ n4 → CurFacts d ways pr (f0 + i) t0 A1 B1) := fun i hi => FO _ (by omega) (by omega)
                have SL : Hid (∀ W, ButS (CurB pc3 (some go)) w36 W → StrsAt W a4 n4 xs) := fun W hW => own_strs (hW.own o4 (fun b hb hh => by
                  have := (o4.lt b hb).1
                  have := TOPo.out b hh
                  omega)) (own_len o4).1
                have SB : Hid (∀ W, ButS (CurB pc3 (some go)) w36 W → StrsAt W a3 n3 kb) := fun W hW => SN.out _ _ _ _ (hW.own (up_ext SO.out E36) AP.out) M3.out
                have XW : Hid (∀ W, ButS (CurB pc3 (some go)) w36 W → Ext w3 W) := fun W hW => ext_of_but (ext_trans XO.out E36) hW (fun b hb hh => by have := LOWo.out b hh; omega)
                have C36h := Lib.hid C36
                have hn4p : (0 : Int) < (n4 : Int) := by omega
                have hft0 : f0 + n4 = t0 := by omega
                clear fol hxs hA1 hB1 FO C36 HNB hpr hprl hf0 ht0 SG hAB htop hxl hnx hsm o4 E36 hpos FL
                go_wp2
                go_loopw [14, 17] (fun v14 v17 wj => ∃ i : Nat, i ≤ n4 ∧ v14 = .int .i64 (sm i : Nat) ∧ v17 = .int .i64 (i : Nat) ∧ CurV wj pc3 pc3 pt (some go) (pr ++ [(f0 + i, t0)]) ∧ ButS (CurB pc3 (some go)) w36 wj) (fun _ v17 _ => n4 - (intOf v17).toNat)
                case atStart => exact ⟨0, Nat.zero_le _, by rw [SM0.out]; rfl, rfl, C36h.out, ButS.refl _ _⟩
                case round =>
                  obtain ⟨i, hi, rfl, rfl, hcv, hbt⟩ := hrel
                  have CV := Lib.hid hcv
                  have BT := Lib.hid hbt
                  have TVr : Hid (∀ W, Ext wr W → TrieV W pt d ways) := fun W hW => TV.out.ext (ext_trans (XW.out _ BT.out) hW)
                  by_cases hlt2 : i < n4
                  · have hlti : (i : Int) < (n4 : Int) := by omega
                    have FI := Lib.hid (FOh.out i hi)
                    obtain ⟨x, b1, o1, hx, rfl, g1⟩ := (SL.out _ hbt).2.at hlt2
                    have g1 : wr.cell? ⟨b1, o1 + i, none⟩ = some (.string x) := by simpa [strAt] using g1
                    have hxk : keyAt ways pr.length (st ways pr.length (f0 + i)) = x := by
                      have := XK.out i hlt2
                      rw [hx] at this
                      cases this
                      rfl
                    have KQ : Hid (∀ q, Calls Try.prog 24 #[.pointer (some ⟨pc3, 0, none⟩)] (wr.drewN q) fun e w' => e = .returned (.string x) ∧ ∃ m, w' = (wr.drewN q).drewN m) := fun q => by
                      have := c_keyQ pc3 pt pc3 go d ways pr (f0 + i) t0 A1 B1 (wr.drewN q) (CV.out.ext (ext_drewN (Below.refl _ _) q)) (TVr.out _ (ext_drewN (Below.refl _ _) q)) FI.out (by omega)
                      rwa [hxk] at this
                    have AQ : Hid (∀ q, Calls Try.prog 10 #[.pointer (some ⟨pc3, 0, none⟩)] (wr.drewN q) fun e w' => e = .returned (.bool false) ∧ ∃ m, w' = (wr.drewN q).drewN m) := fun q => by
                      have := c_atEnd pc3 pt pc3 (some go) (pr ++ [(f0 + i, t0)]) (wr.drewN q) (CV.out.ext (ext_drewN (Below.refl _ _) q))
                      rwa [endB_snoc, decide_eq_false (by omega)] at this
                    obtain ⟨cn, hcn⟩ : ∃ cn, cntW ways pr.length (f0 + i) = cn := ⟨_, rfl⟩
                    have hss := SMS.out i hlt2
                    rw [hcn] at hss
                    have CQ : Hid (∀ W, Ext wr W → Calls Try.prog 15 #[.pointer (some ⟨pc3, 0, none⟩)] W fun e w' => e = .returned (.int .i64 (cn : Nat)) ∧ Ext wr w') := fun W hW => by
                      have := c_countC pc3 pt pc3 go d ways pr (f0 + i) t0 A1 B1 W (CV.out.ext hW) (TVr.out _ hW) HW.out FI.out (by omega) hd64 (by omega)
                      rw [hcn] at this
                      exact this.mono fun e w' ⟨h1, h2⟩ => ⟨h1, ext_trans hW h2⟩
                    have NQ : Hid (∀ W, Ext wr W → Calls Try.prog 13 #[.pointer (some ⟨pc3, 0, none⟩)] W fun e w' => e = .returned (.bool (!decide (f0 + i + 1 = t0))) ∧ CurV w' pc3 pc3 pt (some go) (pr ++ [(f0 + i + 1, t0)]) ∧ ButS (CurB pc3 (some go)) wr w') := fun W hW => (c_next pc3 pt pc3 go pr (f0 + i) t0 W (CV.out.ext hW) (by omega) (by have := FI.out.small; omega)).mono fun e w' ⟨h1, h2, h3⟩ => ⟨h1, h2, ((ButS.refl _ wr).ext hW).trans h3⟩
                    have u1 : IntKind.i64.wrap ((sm i : Int) + (cn : Int)) = ((sm (i + 1) : Nat) : Int) := by
                      have := SML.out (i + 1)
                      rw [IntKind.wrap_i64]
                      omega
                    have xkk : (x.toList == x.toList) = true := by simp
                    by_cases hi0 : i = 0
                    · subst hi0
                      rw [Nat.add_zero] at g1
                      have u2 : 0 < n4 := hlt2
                      clear hcv hbt hx hxk hcn hss
                      go_wp2
                      go_quiet (first
                        | (go_at_call 10; exact Calls.quiet_of (AQ.out _))
                        | (go_at_call 24; exact Calls.quiet_of (KQ.out _)))
                      go_wp2_with (first
                        | (go_at_call 15; (with_reducible refine (CQ.out _ (ext_drewN (Below.refl _ _) _)).mono ?_); rintro e w41 ⟨rfl, E41⟩)
                        | (go_at_call 13; (with_reducible refine (NQ.out _ E41).mono ?_); rintro e w42 ⟨rfl, c42, b42⟩))
                      go_roundw
                      case rel => exact ⟨1, by omega, rfl, by go_num, c42, BT.out.trans b42⟩
                      case measure => simp [intOf]; omega
                    · obtain ⟨j, rfl⟩ : ∃ j, i = j + 1 := ⟨i - 1, by omega⟩
                      obtain ⟨x0, b2, o2, hx0, e2, g3⟩ := (SL.out _ hbt).2.at (i := j) (by omega)
                      cases e2
                      have g3 : wr.cell? ⟨b1, o1 + j, none⟩ = some (.string x0) := by simpa [strAt] using g3
                      have hrs := XR.out j x0 x hx0 hx
                      have v1 : IntKind.i64.wrap (j : Int) = (j : Int) := by rw [IntKind.wrap_i64]; omega
                      have v2 : (j : Int) < (n4 : Int) := by omega
                      have v3 : (j : Int) + 1 < (n4 : Int) := by omega
                      have v4 : (0 : Int) ≤ (j : Int) + 1 := by omega
                      have v5 : ((j : Int) + 1).toNat = j + 1 := by omega
                      have v6 : (0 : Int) < (j : Int) + 1 := by omega
                      clear hcv hbt hx hx0 hxk hcn hss hi0
                      go_wp2
                      go_quiet (first
                        | (go_at_call 10; exact Calls.quiet_of (AQ.out _))
                        | (go_at_call 24; exact Calls.quiet_of (KQ.out _)))
                      go_wp2_with (first
                        | (go_at_call 15; (with_reducible refine (CQ.out _ (ext_drewN (Below.refl _ _) _)).mono ?_); rintro e w41 ⟨rfl, E41⟩)
                        | (go_at_call 13; (with_reducible refine (NQ.out _ E41).mono ?_); rintro e w42 ⟨rfl, c42, b42⟩))
                      go_roundw
                      case rel => exact ⟨j + 1 + 1, by omega, rfl, by go_num, c42, BT.out.trans b42⟩
                      case measure => simp [intOf]; omega
                  · obtain rfl : i = n4 := by omega
                    have hge : ¬ (i : Int) < (i : Int) := by omega
                    rw [SMN.out]
                    have AQ : Hid (Calls Try.prog 10 #[.pointer (some ⟨pc3, 0, none⟩)] wr fun e w' => e = .returned (.bool true) ∧ Ext wr w') := by
                      have := c_atEnd pc3 pt pc3 (some go) (pr ++ [(f0 + i, t0)]) wr hcv
                      rw [endB_snoc, decide_eq_true hft0] at this
                      exact this.mono fun e w' ⟨h1, q, h2⟩ => ⟨h1, by rw [h2]; exact ext_drewN (Below.refl _ _) q⟩
                    have TQ : Hid (∀ W, Ext wr W → Calls Try.prog 26 #[.pointer (some ⟨pt, 0, none⟩), .slice a3 n3 q3] W fun e w' => e = .returned (.int .i64 (N : Nat)) ∧ Ext W w') := fun W hW => TC.out _ _ _ _ (TVr.out _ hW) ((SB.out _ BT.out).keep hW)
                    clear hcv hbt
                    go_wp2_with (first
                      | (go_at_call 10; (with_reducible refine AQ.out.mono ?_); rintro e w41 ⟨rfl, E41⟩)
                      | (go_at_call 26; (with_reducible refine (TQ.out _ E41).mono ?_); rintro e w42 ⟨rfl, E42⟩))
                    go_returns
                    exact ⟨rfl, ext_trans E3h.out (ext_trans (XW.out _ BT.out) (ext_trans E41 E42))⟩
end Go.Proofs.Ythjpfplebbnbpaa
