/- The walk of the document's Minimal. -/
import Derived.Test.YtcphjfggjjonpaaDWout
import Derived.Test.YtcphjfggjjonpaaLaidR
namespace Go.Proofs.Ytcphjfggjjonpaa
open Go.ChangeShapes Go.WideShapes Go.ChangeAt Go.RowKit
theorem MinSN.cutD {w0 w : World} {b5 : Nat} {R : Int × Option Rule} {out : Rule} {i : Nat} {ah : Option Addr} {nh ch : Nat} {ab : Option Addr} {nb cb : Nat} (h : MinSN w0 b5 R out i ah nh ch ab nb cb w) (hi : i < nb) {a1 : Option Addr} {n1 c1 : Nat} {a' : Option Addr} {c' : Nat} (hn : NewR w (w0.heap.size + 2) (fun b => b = b5) (less out i) a1 n1 c1 a' (nb - 1) c') (hr : RuleV w (less out i) a1 n1 c1 a' (nb - 1) c') (hp : Go.Proofs.Ytcphjfggjjonpaa.plain (less out i) = true) (hl : R = minGo ((less out i).body.length - i + 1) (less out i) i) :
    MinSN w0 b5 R (less out i) i a1 n1 c1 a' (nb - 1) c' (((w.setCell ⟨b5, 0, none⟩ (.string (less out i).head.pred)).setCell ⟨b5, 1, none⟩ (.slice a1 n1 c1)).setCell ⟨b5, 2, none⟩ (.slice a' (nb - 1) c')) := by
  have h5 : w0.heap.size ≤ b5 := by have := h.low; omega
  exact ⟨⟨ext_set (ext_set (ext_set h.old h5 _) h5 _) h5 _, h.low, h.res.put_other (by have := h.low; omega) h.var (less out i) a1 n1 c1 a' (nb - 1) c', h.var.put (less out i) a1 n1 c1 a' (nb - 1) c', hr.put h.var (less out i) a1 n1 c1 a' (nb - 1) c', hp, hl.symm, by omega⟩, ((hn.set (.inr rfl)).set (.inr rfl)).set (.inr rfl)⟩
set_option maxRecDepth 20000 in
set_option maxHeartbeats 4000000 in
theorem c_dMinimal (r : Rule) (ah : Option Addr) (nh ch : Nat) (ab : Option Addr) (nb cb : Nat) (w : World) (hr : RuleV w r ah nh ch ab nb cb) :
    Calls Try.prog 30 #[.agg #[.string r.head.pred, .slice ah nh ch, .slice ab nb cb]] w fun e w' => ∃ ah' nh' ch' ab' nb' cb', e = .returned (.tuple #[.agg #[.string ((minimal r).2.getD noRule).head.pred, .slice ah' nh' ch', .slice ab' nb' cb'], .int .i64 (minimal r).1]) ∧ RuleV w' ((minimal r).2.getD noRule) ah' nh' ch' ab' nb' cb' ∧ NewR w' (w.heap.size + 2) (fun _ => False) ((minimal r).2.getD noRule) ah' nh' ch' ab' nb' cb' ∧ Ext w w' := by
  have HR := Lib.hid hr
  clear hr
  obtain ⟨R, hR⟩ : ∃ R, minimal r = R := ⟨_, rfl⟩
  rw [hR]
  have HRR := Lib.hid hR
  clear hR
  go_enter Try.func30, Try.ntmps30
  go_upto_region 1 with (fail)
  refine wp_gen (fun W hW => ?_)
  have hb0 : Ext w W := by rw [hW]; go_grown
  have x0 : W.cell? ⟨w.heap.size, 0, none⟩ = some (.string r.head.pred) := by rw [hW]; go_simp
  have x1 : W.cell? ⟨w.heap.size, 1, none⟩ = some (.slice ah nh ch) := by rw [hW]; go_simp
  have x2 : W.cell? ⟨w.heap.size, 2, none⟩ = some (.slice ab nb cb) := by rw [hW]; go_simp
  have vz : VarR W (w.heap.size + 1) noRule none 0 0 none 0 0 := by
    rw [hW]
    have h := VarR.new (w.alloc (.cells #[.string r.head.pred, .slice ah nh ch, .slice ab nb cb] 27)) noRule none 0 0 none 0 0 27
    rw [World.size_alloc] at h
    exact h
  have VZ := Lib.hid vz
  clear hW vz
  obtain ⟨M, hM⟩ : ∃ M, mayRule r = M := ⟨_, rfl⟩
  have HM := Lib.hid hM
  clear hM
  obtain ⟨bm, hbm⟩ : ∃ b, (M != 0) = b := ⟨_, rfl⟩
  go_upto_if 13 with (go_at_call 43; (with_reducible refine (c_dRule r _ _ _ _ _ _ _ (HR.out.keep hb0)).mono ?_); rw [HM.out]; rintro e w1 ⟨rfl, h1⟩)
  have VZ1 := Lib.hid (VZ.out.keep h1)
  cases bm with
  | true =>
    have v0 := VZ1.out.c0
    have v1 := VZ1.out.c1
    have v2 := VZ1.out.c2
    have f0 := VZ1.out.f0
    have f1 := VZ1.out.f1
    have f2 := VZ1.out.f2
    dsimp only [noRule] at v0
    go_wp2
    have P := VZ1.out.put noRule none 0 0 none 0 0
    have S0 := P.c0
    have S1 := P.c1
    have S2 := P.c2
    dsimp only [noRule] at S0 S1 S2
    have E6 : Ext w (((w1.setCell ⟨w.heap.size + 1, 0, none⟩ (.string ⟨#[]⟩)).setCell ⟨w.heap.size + 1, 1, none⟩ (.slice none 0 0)).setCell ⟨w.heap.size + 1, 2, none⟩ (.slice none 0 0)) := ext_set (ext_set (ext_set (ext_trans hb0 h1) (Nat.le_succ _) _) (Nat.le_succ _) _) (Nat.le_succ _) _
    clear P
    generalize (((w1.setCell ⟨w.heap.size + 1, 0, none⟩ (.string ⟨#[]⟩)).setCell ⟨w.heap.size + 1, 1, none⟩ (.slice none 0 0)).setCell ⟨w.heap.size + 1, 2, none⟩ (.slice none 0 0)) = W6 at S0 S1 S2 E6 ⊢
    refine bodyPost_ret (by simp [results, Try.results30, go_sem, S0, S1, S2]; try rfl) rfl ?_
    obtain rfl : R = (M, none) := by rw [← HRR.out, ← HM.out]; unfold minimal; rw [if_pos (by rw [HM.out]; simpa using hbm)]
    exact ⟨none, 0, 0, none, 0, 0, rfl, noRuleV _, noNewR _ _ _, E6⟩
  | false =>
    obtain rfl : M = 0 := by simpa using hbm
    obtain ⟨bp, hbp⟩ : ∃ b, plain r = b := ⟨_, rfl⟩
    have PL := Lib.hid hbp
    clear hbp hbm
    have y0 := keep h1 x0
    have y1 := keep h1 x1
    have y2 := keep h1 x2
    have hb1 := ext_trans hb0 h1
    clear x0 x1 x2 h1
    go_upto_if 18 with (go_at_call 20; (with_reducible refine (c_dPlain r _ _ _ _ _ _ _ (HR.out.keep hb1)).mono ?_); rw [PL.out]; rintro e w2 ⟨rfl, h2⟩)
    have VZ2 := Lib.hid (VZ1.out.keep h2)
    cases bp with
    | false =>
      have v0 := VZ2.out.c0
      have v1 := VZ2.out.c1
      have v2 := VZ2.out.c2
      have f0 := VZ2.out.f0
      have f1 := VZ2.out.f1
      have f2 := VZ2.out.f2
      dsimp only [noRule] at v0
      go_wp2
      have P := VZ2.out.put noRule none 0 0 none 0 0
      have S0 := P.c0
      have S1 := P.c1
      have S2 := P.c2
      dsimp only [noRule] at S0 S1 S2
      have E6 : Ext w (((w2.setCell ⟨w.heap.size + 1, 0, none⟩ (.string ⟨#[]⟩)).setCell ⟨w.heap.size + 1, 1, none⟩ (.slice none 0 0)).setCell ⟨w.heap.size + 1, 2, none⟩ (.slice none 0 0)) := ext_set (ext_set (ext_set (ext_trans hb1 h2) (Nat.le_succ _) _) (Nat.le_succ _) _) (Nat.le_succ _) _
      clear P
      generalize (((w2.setCell ⟨w.heap.size + 1, 0, none⟩ (.string ⟨#[]⟩)).setCell ⟨w.heap.size + 1, 1, none⟩ (.slice none 0 0)).setCell ⟨w.heap.size + 1, 2, none⟩ (.slice none 0 0)) = W6 at S0 S1 S2 E6 ⊢
      refine bodyPost_ret (by simp [results, Try.results30, go_sem, S0, S1, S2]; try rfl) rfl ?_
      obtain rfl : R = (240, none) := by rw [← HRR.out]; unfold minimal; rw [if_neg (by rw [HM.out]; simp), if_pos PL.out]
      exact ⟨none, 0, 0, none, 0, 0, rfl, noRuleV _, noNewR _ _ _, E6⟩
    | true =>
      have y0 := keep h2 y0
      have y1 := keep h2 y1
      have y2 := keep h2 y2
      have hb2 := ext_trans hb1 h2
      clear h2 hb1 hb0
      go_upto_region 7 with (go_at_call 53; (with_reducible refine (c_dOwn r _ _ _ _ _ _ _ (HR.out.keep hb2)).mono ?_); rintro e w3 ⟨a3, c3, b3, k3, rfl, R3, N3, h3⟩)
      refine wp_gen (fun W4 hW4 => ?_)
      have st : MinSN w w3.heap.size R r 0 a3 nh c3 b3 nb k3 W4 := by
        have hb3 := ext_trans hb2 h3
        have e4 : Ext w3 W4 := by rw [hW4]; exact ext_alloc (Below.refl _ _) _
        refine ⟨⟨ext_trans hb3 e4, ?_, (VZ2.out.keep h3).keep e4, ?_, R3.keep e4, PL.out, ?_, Nat.zero_le _⟩, ((N3.mono (by have := hb2.size; omega)).avoid (fun b hb => .inr (.inr (by subst hb; exact Nat.le_refl _)))).ext e4⟩
        · exact Nat.lt_of_lt_of_le VZ2.out.lt h3.size
        · rw [hW4]; exact VarR.new w3 r a3 nh c3 b3 nb k3 _
        · rw [← HRR.out]; unfold minimal; rw [if_neg (by rw [HM.out]; simp), if_neg (by rw [PL.out]; simp)]; rfl
      obtain ⟨b5, hb5⟩ : ∃ b, b = w3.heap.size := ⟨_, rfl⟩
      rw [← hb5] at st ⊢
      have ST := Lib.hid st
      clear st hW4 R3 N3 h3 hb5 y0 y1 y2 hb2 VZ1 VZ2
      go_wp2
      go_loopw [6] (fun v wj => ∃ out i a3 n3 c3 b3 nb3 k3, v = .int .i64 ((i : Nat) : Int) ∧ MinSN w b5 R out i a3 n3 c3 b3 nb3 k3 wj) (fun v wj => lenOf (wj.cell? ⟨b5, 2, none⟩) - (intOf v).toNat)
      case atStart => exact ⟨r, 0, _, _, _, _, _, _, rfl, ST.out⟩
      case round =>
        obtain ⟨out, i, a3, n3, c3, b3, nb3, k3, rfl, hs⟩ := hrel
        clear ST
        have HS := Lib.hid hs
        have hlen := hs.rule.body.2.1
        have hn64 := nb_le hs.rule hs.plain
        have hle := hs.le
        have z0 := hs.var.c0
        have z1 := hs.var.c1
        have z2 := hs.var.c2
        have HLEN := Lib.hid hlen
        clear hs hlen
        by_cases hge : nb3 ≤ i
        · have v0 := HS.out.res.c0
          have v1 := HS.out.res.c1
          have v2 := HS.out.res.c2
          have f0 := HS.out.res.f0
          have f1 := HS.out.res.f1
          have f2 := HS.out.res.f2
          dsimp only [noRule] at v0
          go_wp2
          have P := HS.out.res.put out a3 n3 c3 b3 nb3 k3
          have NR := ((HS.out.fresh.set (a := ⟨w.heap.size + 1, 0, none⟩) (u := .string out.head.pred) (.inl (Nat.lt_succ_self _))).set (a := ⟨w.heap.size + 1, 1, none⟩) (u := .slice a3 n3 c3) (.inl (Nat.lt_succ_self _))).set (a := ⟨w.heap.size + 1, 2, none⟩) (u := .slice b3 nb3 k3) (.inl (Nat.lt_succ_self _))
          have NR0 := NR.avoid (y := fun _ => False) (fun b hb => hb.elim)
          clear NR
          have Q := HS.out.rule.put HS.out.res out a3 n3 c3 b3 nb3 k3
          have S0 := P.c0
          have S1 := P.c1
          have S2 := P.c2
          have E6 : Ext w (((wr.setCell ⟨w.heap.size + 1, 0, none⟩ (.string out.head.pred)).setCell ⟨w.heap.size + 1, 1, none⟩ (.slice a3 n3 c3)).setCell ⟨w.heap.size + 1, 2, none⟩ (.slice b3 nb3 k3)) := ext_set (ext_set (ext_set HS.out.old (Nat.le_succ _) _) (Nat.le_succ _) _) (Nat.le_succ _) _
          clear P
          generalize (((wr.setCell ⟨w.heap.size + 1, 0, none⟩ (.string out.head.pred)).setCell ⟨w.heap.size + 1, 1, none⟩ (.slice a3 n3 c3)).setCell ⟨w.heap.size + 1, 2, none⟩ (.slice b3 nb3 k3)) = W6 at S0 S1 S2 Q E6 NR0 ⊢
          refine bodyPost_ret (by simp [results, Try.results30, go_sem, S0, S1, S2]; try rfl) rfl ?_
          obtain rfl : R = (0, some out) := by
            rw [← HS.out.law, minGo, if_neg (by rw [HLEN.out]; omega)]
          exact ⟨a3, n3, c3, b3, nb3, k3, rfl, Q, NR0, E6⟩
        · have hki : (i : Int) < (nb3 : Int) := by omega
          have hlt9 : i < nb3 := by omega
          have hb5l := HS.out.var.lt
          go_upto_region 10 with (go_at_call 55; (with_reducible refine (c_without out i _ _ _ _ _ _ wr HS.out.rule hlt9).mono ?_); rintro e w6 ⟨a7, c7, b7, k7, rfl, R6, N6, e6⟩)
          refine wp_gen (fun wc hwc => ?_)
          have e7 : Ext wr wc := by rw [hwc]; exact ext_alloc e6 _
          have V7 : VarR wc w6.heap.size (less out i) a7 n3 c7 b7 (nb3 - 1) k7 := by rw [hwc]; exact VarR.new w6 (less out i) a7 n3 c7 b7 (nb3 - 1) k7 _
          have R7 : RuleV wc (less out i) a7 n3 c7 b7 (nb3 - 1) k7 := by rw [hwc]; exact R6.keep (ext_alloc (Below.refl _ _) _)
          have hlow := HS.out.low
          have hb6 := e6.size
          have N7 : NewR wc (w.heap.size + 2) (fun b => b = b5) (less out i) a7 n3 c7 b7 (nb3 - 1) k7 := by rw [hwc]; exact ((N6.avoid (fun b hb => .inr (.inl (by omega)))).mono (by omega)).ext (ext_alloc (Below.refl _ _) _)
          obtain ⟨bx, hbx⟩ : ∃ b, b = w6.heap.size := ⟨_, rfl⟩
          rw [← hbx] at V7 ⊢
          clear hwc R6 N6 e6 hbx hb6 hlow
          have HS7 := Lib.hid (show MinSN w b5 R out i a3 n3 c3 b3 nb3 k3 wc from HS.out.keep e7)
          have y0 := V7.c0
          have y1 := V7.c1
          have y2 := V7.c2
          have u0 := keep e7 z0
          have u1 := keep e7 z1
          have u2 := keep e7 z2
          have VV := Lib.hid V7
          have Z2 := Lib.hid z2
          have ROUND := Lib.hid (HS.out.law.symm.trans (minGo_round (by rw [HLEN.out]; exact hlt9)))
          have RR := Lib.hid R7
          have NN := Lib.hid N7
          clear e7 V7 R7 N7 z0 z1 z2
          obtain ⟨bp, hbp⟩ : ∃ b, plain (less out i) = b := ⟨_, rfl⟩
          have PL := Lib.hid hbp
          clear hbp
          go_upto_if 32 with (go_at_call 20; (with_reducible refine (c_dPlain (less out i) _ _ _ _ _ _ _ RR.out).mono ?_); rw [PL.out]; rintro e w8 ⟨rfl, h8⟩)
          cases bp with
          | false =>
            have HS9 := HS7.out.keep h8
            have n2 := HS9.var.c2
            go_wp2
            go_roundw
            case rel => exact ⟨out, i + 1, a3, n3, c3, _, nb3, k3, by go_num, HS9.next (by omega) (by rw [ROUND.out, if_pos PL.out])⟩
            case measure =>
              rw [Z2.out, n2]
              simp [intOf, lenOf]
              omega
          | true =>
            have y0 := keep h8 y0
            have y1 := keep h8 y1
            have y2 := keep h8 y2
            have u0 := keep h8 u0
            have u1 := keep h8 u1
            have u2 := keep h8 u2
            have RR8 := Lib.hid (RR.out.keep h8)
            have NN8 := Lib.hid (NN.out.ext h8)
            have VV8 := Lib.hid (VV.out.keep h8)
            have HS8 := Lib.hid (HS7.out.keep h8)
            clear h8 HS7 RR VV
            obtain ⟨E, hE⟩ : ∃ b, (laid (less out i) out).1 = b := ⟨_, rfl⟩
            obtain ⟨B, hB⟩ : ∃ b, (laid (less out i) out).2.isSome = b := ⟨_, rfl⟩
            have EH := Lib.hid hE
            have BH := Lib.hid hB
            clear hE hB
            go_upto_region 13 with (go_at_call 21; (with_reducible refine (c_dWithin (less out i) out _ _ _ _ _ _ _ _ _ _ _ _ w8 RR8.out HS8.out.rule).mono ?_); rw [EH.out, BH.out]; rintro e w9 ⟨rfl, h9⟩)
            have HS9 := Lib.hid (HS8.out.keep h9)
            by_cases h0 : E = 0
            · subst h0
              cases B with
              | false =>
                have HS9 := HS9.out
                have n2 := HS9.var.c2
                go_wp2
                go_roundw
                case rel => exact ⟨out, i + 1, a3, n3, c3, _, nb3, k3, by go_num, HS9.next (by omega) (by rw [ROUND.out, if_neg (by rw [PL.out]; simp), if_neg (by rw [EH.out]; simp), if_neg (by rw [BH.out]; simp)])⟩
                case measure =>
                  rw [Z2.out, n2]
                  simp [intOf, lenOf]
                  omega
              | true =>
                have m0 := HS9.out.var.c0
                have m1 := HS9.out.var.c1
                have m2 := HS9.out.var.c2
                have f0 := HS9.out.var.f0
                have f1 := HS9.out.var.f1
                have f2 := HS9.out.var.f2
                have y0 := keep h9 y0
                have y1 := keep h9 y1
                have y2 := keep h9 y2
                have FIN := HS9.out.cutD hlt9 (NN8.out.ext h9) (RR8.out.keep h9) PL.out (by rw [ROUND.out, if_neg (by rw [PL.out]; simp), if_neg (by rw [EH.out]; simp), if_pos BH.out])
                have n2 := FIN.var.c2
                have FH := Lib.hid FIN
                have N2 := Lib.hid n2
                clear FIN n2
                go_wp2
                go_roundw
                case rel => exact ⟨less out i, i, a7, n3, c7, b7, nb3 - 1, k7, by go_num, FH.out⟩
                case measure =>
                  have hm := N2.out
                  rw [Z2.out]
                  first | rw [hm] | skip
                  simp [intOf, lenOf]
                  omega
            · have h0' : (E != 0) = true := by simpa using h0
              have v0 := HS9.out.res.c0
              have v1 := HS9.out.res.c1
              have v2 := HS9.out.res.c2
              have f0 := HS9.out.res.f0
              have f1 := HS9.out.res.f1
              have f2 := HS9.out.res.f2
              dsimp only [noRule] at v0
              go_wp2
              have P := HS9.out.res.put noRule none 0 0 none 0 0
              have S0 := P.c0
              have S1 := P.c1
              have S2 := P.c2
              dsimp only [noRule] at S0 S1 S2
              have E6 : Ext w (((w9.setCell ⟨w.heap.size + 1, 0, none⟩ (.string ⟨#[]⟩)).setCell ⟨w.heap.size + 1, 1, none⟩ (.slice none 0 0)).setCell ⟨w.heap.size + 1, 2, none⟩ (.slice none 0 0)) := ext_set (ext_set (ext_set HS9.out.old (Nat.le_succ _) _) (Nat.le_succ _) _) (Nat.le_succ _) _
              clear P
              generalize (((w9.setCell ⟨w.heap.size + 1, 0, none⟩ (.string ⟨#[]⟩)).setCell ⟨w.heap.size + 1, 1, none⟩ (.slice none 0 0)).setCell ⟨w.heap.size + 1, 2, none⟩ (.slice none 0 0)) = W6 at S0 S1 S2 E6 ⊢
              refine bodyPost_ret (by simp [results, Try.results30, go_sem, S0, S1, S2]; try rfl) rfl ?_
              obtain rfl : R = (E, none) := by rw [ROUND.out, if_neg (by rw [PL.out]; simp), if_pos (by rw [EH.out]; exact h0), EH.out]
              exact ⟨none, 0, 0, none, 0, 0, rfl, noRuleV _, noNewR _ _ _, E6⟩
end Go.Proofs.Ytcphjfggjjonpaa
