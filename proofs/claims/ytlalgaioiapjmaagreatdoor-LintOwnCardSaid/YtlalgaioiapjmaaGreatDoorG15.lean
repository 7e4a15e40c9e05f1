/- The walk of (*graph.walk).from: the search for parts from one node. -/
import Derived.Test.YtlalgaioiapjmaaGreatDoorG14
namespace Go.Proofs.YtlalgaioiapjmaaGreatDoor
open Go.ChangeShapes Go.WideShapes Go.ChangeAt Go.RowKit
open K (WSt WInv mu stepW runW fromW fuelW meetS closeS)
set_option maxRecDepth 100000 in
set_option maxHeartbeats 8000000 in
theorem c_fromG (B2 n wb gb mb lb pb : Nat) (g : Nat → List Nat) (s : WSt) (v m0 Cm : Nat) (w : World) (hV : WalkV B2 n wb gb mb lb pb s w) (hN : NetAt (WS B2 wb mb lb pb) gb n g w) (hg : ∀ v, v < n → ∀ t ∈ g v, t < n) (hgl : ∀ v, (g v).length ≤ 2000000) (hv : v < n) (hn : n ≤ 65536) (hm : s.met.length = n) (hl : s.low.length = n) (ho : s.opn = []) (hC : Cm ≤ 1000000000000) (h0 : s.met0 ≤ Cm)
    (hP : FrP n g v m0 (fromW g n s v) Cm (fuelW g n) { meetS s v with way := [(v, 0)] }) :
    Calls Tryz.prog 101 #[.pointer (some ⟨wb, 0, none⟩), .int .i64 (v : Int)] w fun e w' => e = .returned (.tuple #[]) ∧ WalkV B2 n wb gb mb lb pb (fromW g n s v) w' ∧ ButS (WS B2 wb mb lb pb) w w' := by
  obtain ⟨R, hR⟩ : ∃ R, fromW g n s v = R := ⟨_, rfl⟩
  rw [hR] at hP ⊢
  have E0 : Ext w (w.alloc (.cells #[.int .i64 (v : Int), .int .i64 0] 191)) := ext_alloc (Below.refl _ _) _
  have MEET := Lib.hid (c_meet B2 n wb gb mb lb pb s v (w.alloc (.cells #[.int .i64 (v : Int), .int .i64 0] 191)) (hV.ext E0) hv hm hl (by omega) (by rw [ho]; simp))
  have HW0 : Hid (WayV (w.alloc (.cells #[.int .i64 (v : Int), .int .i64 0] 191)) B2 [(v, 0)] (some ⟨w.heap.size, 0, none⟩) 1) := by
    exact World.ownsRow_lit w _ 1 hV.sz (by decide) rfl
  have HP := Lib.hid hP
  have HN := Lib.hid hN
  have HG := Lib.hid hg
  have HGL := Lib.hid hgl
  have HV := Lib.hid hV
  clear hP hV hN hg hgl hR hm hl ho E0
  go_enter Tryz.func101, Tryz.ntmps101
  go_step3
  go_wp2_with (first | (go_at_call 135; (with_reducible refine MEET.out.mono ?_); rintro e w1 ⟨rfl, p1, p2⟩) | fail)
  go_step3
  go_wp2
  have M0 : FrM B2 n wb gb mb lb pb w { meetS s v with way := [(v, 0)] } (some ⟨w.heap.size, 0, none⟩) 1 w1 := by
    refine ⟨p1.way _, p2.2 _ _ _ HW0.out, ?_⟩
    exact ((ButS.refl _ w).ext (ext_alloc (Below.refl _ _) _)).trans p2.1
  go_loopg [4] (fuelW g n) (fun f wv wr => ∃ s a c, wv = .slice a s.way.length c ∧ FrP n g v m0 R Cm f s ∧ FrM B2 n wb gb mb lb pb w s a c wr)
  case atStart => exact ⟨_, _, _, rfl, HP.out, M0⟩
  case round =>
    clear M0 p1 p2 MEET HW0
    clear w1
    obtain ⟨s1, a, c, rfl, hP, hM⟩ := hrel
    cases hw : s1.way with
    | nil =>
      have hfin := hP.stop hw
      have HF := Lib.hid hfin
      have HM := Lib.hid hM
      clear hP hM hfin
      simp only [List.length_nil]
      go_wp2
      rw [Exit.noGoto_normal]
      go_end0
      exact ⟨rfl, by rw [← HF.out]; exact HM.out.val, HM.out.low⟩
    | cons p rest =>
      obtain ⟨u, k⟩ := p
      obtain ⟨gw, e, hgB, w0, w1, wf, hc1, hc2, hty⟩ := WayV.top (show WayV wr B2 ((u, k) :: rest) a c by rw [← hw]; exact hM.row)
      subst e
      obtain ⟨r, hr⟩ : ∃ r, rest.length = r := ⟨_, rfl⟩
      have e1 : s1.way.length = r + 1 := by rw [hw]; simp [hr]
      have hun := hP.inv.way (u, k) (by rw [hw]; simp)
      have hrn : r ≤ n := by have := way_few hP.inv; omega
      have q1 : IntKind.i64.wrap (r : Int) = (r : Int) := by rw [IntKind.wrap_i64]; omega
      have q2 : (r : Int) < (r : Int) + 1 := by omega
      have hiw : Hid (∃ s k, s.way = (u, k) :: rest ∧ FrP n g v m0 R Cm gk s ∧ FrM B2 n wb gb mb lb pb w s (some ⟨gw, 0, none⟩) c wr) := ⟨s1, k, hw, hP, hM⟩
      have HR := Lib.hid hr
      rw [hr] at w0 w1 hc1
      rw [show ((u, k) :: rest).length = r + 1 by simp [hr]]
      have hun1 := hun.1
      clear hP hM hw e1 hun hr
      go_upto_region 4 with (fail)
      obtain ⟨F0, hF0⟩ : ∃ F0, F0 = gk := ⟨_, rfl⟩
      have HF0 := Lib.hid hF0
      clear hF0 w0 w1 q1 q2 wf hty
      go_loopg [4, 6] gk (fun f av _ wr => ∃ s k, av = .slice (some ⟨gw, 0, none⟩) (r + 1) c ∧ s.way = (u, k) :: rest ∧ FrP n g v m0 R Cm f s ∧ FrM B2 n wb gb mb lb pb w s (some ⟨gw, 0, none⟩) c wr ∧ f ≤ F0)
      case atStart =>
        obtain ⟨s2, k2, h1, h2, h3⟩ := hiw.out
        exact ⟨s2, k2, rfl, h1, h2, h3, by rw [HF0.out]; exact Nat.le_refl _⟩
      case round =>
        clear hiw
        clear k
        obtain ⟨s2, k, rfl, hw, hP, hM, hfF⟩ := hrel
        obtain ⟨L, hL⟩ : ∃ L, (g u).length = L := ⟨_, rfl⟩
        have hkL := (hP.inv.way (u, k) (by rw [hw]; simp)).2
        obtain ⟨_, e, hgB, w0, w1, wf, hc1, hc2, hty⟩ := WayV.top (show WayV wr B2 ((u, k) :: rest) (some ⟨gw, 0, none⟩) c by rw [← hw]; exact hM.row)
        cases e
        obtain ⟨ga, gc, n1, n2⟩ := (HN.out.keep hM.low).2 u hun1
        obtain ⟨a5, c5, T5, R5⟩ := hM.val.top
        have t0 : wr.cell? ⟨wb, 0, none⟩ = some (.slice (some ⟨gb, 0, none⟩) n n) := T5.cell (i := 0) rfl
        have hui : (u : Int) < (n : Int) := by omega
        simp only [HR.out] at w0 w1 hc1
        rw [hL] at n1 hkL
        have HGL := Lib.hid (HGL.out u)
        simp only [hL] at HGL
        have HLL := Lib.hid hL
        have HW := Lib.hid hw
        have HP := Lib.hid hP
        have HM := Lib.hid hM
        have HT5 := Lib.hid T5
        have HR5 := Lib.hid R5
        clear hw hP hM T5 R5 hL
        obtain ⟨q, hq⟩ : ∃ q, decide ((k : Int) < (L : Int)) = q := ⟨_, rfl⟩
        cases q with
        | false =>
          have hqn : ¬ (k : Int) < (L : Int) := of_decide_eq_false hq
          clear hq
          go_wp2
          go_quiet (fail)
          go_upto_region 12 with (fail)
          refine wp_gen (fun W hW => ?_)
          have E1 : Ext wr W := by rw [hW]; exact ext_drewN (Below.refl _ _) _
          have MP := Lib.hid ((HM.out.ext E1).pop HW.out)
          have rowW : WayV W B2 ((u, k) :: rest) (some ⟨gw, 0, none⟩) c := by rw [← HW.out]; exact (HM.out.ext E1).row
          have v0 := keep E1 w0
          have q1 : IntKind.i64.wrap (r : Int) = (r : Int) := by have := hrn; rw [IntKind.wrap_i64]; omega
          have q2 : (r : Int) ≤ (c : Int) := by omega
          have q3 : (r : Int) ≤ (r : Int) + 1 := by omega
          have hcc : c ≤ 9223372036854775807 := hc2
          clear hW w0 w1 t0 n1 n2
          go_upto_if 126 with (fail)
          go_cut [8] (fun _ wc => FrM B2 n wb gb mb lb pb w { s2 with low := K.upLow s2 u rest, way := rest } (some ⟨gw, 0, none⟩) c wc)
          case first =>
            cases rest with
            | nil =>
              obtain rfl : r = 0 := by simpa using HR.out.symm
              go_wp2
              go_meet
              exact MP.out
            | cons p2 rest2 =>
              obtain ⟨u2, k2⟩ := p2
              obtain ⟨r2, rfl⟩ : ∃ r2, r = r2 + 1 := ⟨rest2.length, by simpa using HR.out.symm⟩
              have hr2 : rest2.length = r2 := by simpa using HR.out
              obtain ⟨_, e, _, y0, _⟩ := MP.out.row.top
              cases e
              rw [hr2] at y0
              have hl2 := HP.out.inv.ll
              have hu2 : u2 < n := (HP.out.inv.way (u2, k2) (by rw [HW.out]; simp)).1
              obtain ⟨a6, c6, T6, R6⟩ := MP.out.val.top
              have x2 : W.cell? ⟨wb, 2, none⟩ = some (.slice (some ⟨lb, 0, none⟩) n n) := T6.cell (i := 2) rfl
              have l1 : W.cell? ⟨lb, u2, none⟩ = some (numV (s2.low.getD u2 0)) := MP.out.val.low.cell (map_at numV (by rw [hl2]; exact hu2))
              have l2 : W.cell? ⟨lb, u, none⟩ = some (numV (s2.low.getD u 0)) := MP.out.val.low.cell (map_at numV (by rw [hl2]; exact hun1))
              have l4 : W.drew.frozen? ⟨lb, u2, none⟩ = false := MP.out.val.low.free u2
              have i2 : (u2 : Int) < (n : Int) := by omega
              have q6 : IntKind.i64.wrap (r2 : Int) = (r2 : Int) := by rw [IntKind.wrap_i64]; omega
              have q7 : (r2 : Int) < (r2 : Int) + 1 := by omega
              have q8 : (0 : Int) < (r2 : Int) + 1 := by omega
              have MPd := Lib.hid (FrM.low' MP.out u2 (min (s2.low.getD u2 0) (s2.low.getD u 0)))
              clear T6 R6 hl2 hr2
              obtain ⟨z1, hz1⟩ : ∃ z, s2.low.getD u2 0 = z := ⟨_, rfl⟩
              obtain ⟨z2, hz2⟩ : ∃ z, s2.low.getD u 0 = z := ⟨_, rfl⟩
              rw [hz1] at l1
              rw [hz2] at l2
              rw [hz1, hz2] at MPd
              have HZ := Lib.hid (And.intro hz1 hz2)
              clear hz1 hz2
              go_upto_region 16 with (fail)
              go_still_tail 20, (by kernel_rfl)
              change wpList _ _ _ _ _ W.drew
              go_wp2
              all_goals
                go_meet
                have M9 := MPd.out
                show FrM B2 n wb gb mb lb pb w { s2 with low := s2.low.set u2 (min (s2.low.getD u2 0) (s2.low.getD u 0)), way := (u2, k2) :: rest2 } (some ⟨gw, 0, none⟩) c _
                rw [HZ.out.1, HZ.out.2]
                first
                  | (rw [show min z1 z2 = z1 by omega] at M9 ⊢; exact M9.ext (ext_drew (Below.refl _ _)))
                  | (rw [show min z1 z2 = z2 by omega] at M9 ⊢; exact M9.ext (ext_drew (Below.refl _ _)))
                  | (rw [show min (z1 : Int) (z2 : Int) = ((min z1 z2 : Nat) : Int) by omega]; exact M9.ext (ext_drew (Below.refl _ _)))
          case rest =>
            obtain ⟨sA, hsA⟩ : ∃ sA : WSt, sA = { s2 with low := K.upLow s2 u rest, way := rest } := ⟨_, rfl⟩
            rw [← hsA] at hcut
            obtain ⟨hpos, P9⟩ := HP.out.step HG.out (by rw [HW.out]; simp) (s' := K.popS s2 u rest) (by unfold stepW; rw [HW.out]; simp only; rw [List.getElem?_eq_none (by rw [HLL.out]; omega)])
            have hlA : sA.low.length = n := by
              rw [hsA]
              show (K.upLow s2 u rest).length = n
              unfold K.upLow
              split
              · exact HP.out.inv.ll
              · rw [List.length_set]; exact HP.out.inv.ll
            have hmA : sA.met.length = n := by rw [hsA]; exact HP.out.inv.lm
            obtain ⟨a6, c6, T6, R6⟩ := hcut.val.top
            have x1 : wc.cell? ⟨wb, 1, none⟩ = some (.slice (some ⟨mb, 0, none⟩) n n) := T6.cell (i := 1) rfl
            have x2 : wc.cell? ⟨wb, 2, none⟩ = some (.slice (some ⟨lb, 0, none⟩) n n) := T6.cell (i := 2) rfl
            obtain ⟨zl, hzl⟩ : ∃ z, sA.low.getD u 0 = z := ⟨_, rfl⟩
            obtain ⟨zm, hzm⟩ : ∃ z, sA.met.getD u 0 = z := ⟨_, rfl⟩
            have l1 : wc.cell? ⟨lb, u, none⟩ = some (numV zl) := by rw [← hzl]; exact hcut.val.low.cell (map_at numV (by rw [hlA]; exact hun1))
            have l2 : wc.cell? ⟨mb, u, none⟩ = some (numV zm) := by rw [← hzm]; exact hcut.val.met.cell (map_at numV (by rw [hmA]; exact hun1))
            obtain ⟨q, hq⟩ : ∃ q, decide (zl = zm) = q := ⟨_, rfl⟩
            have hqi : ((zl : Int) == (zm : Int)) = q := by
              rw [← hq, Bool.eq_iff_iff, beq_iff_eq, decide_eq_true_eq]
              omega
            have POP : Hid (K.popS s2 u rest = if zl = zm then { sA with opn := (closeS s2.opn u s2.part s2.all).1, part := (closeS s2.opn u s2.part s2.all).2, all := s2.all + 1 } else sA) := by
              show _ = _
              rw [K.popS_eq, ← hzl, ← hzm, hsA]
            have HQ := Lib.hid hq
            have HC := Lib.hid hcut
            have P9H := Lib.hid P9
            have HSA := Lib.hid hsA
            clear hq hcut P9 hzl hzm hlA hmA T6 R6 hsA
            cases q with
            | false =>
              have hne : ¬ zl = zm := of_decide_eq_false HQ.out
              have e9 := POP.out
              rw [if_neg hne] at e9
              go_wp2
              go_quiet (fail)
              go_wp2
              go_roundg (gk - 1)
              case measure => have := HF0.out; omega
              case rel => exact ⟨sA, some ⟨gw, 0, none⟩, c, by rw [HSA.out]; show _ = Value.slice _ rest.length _; rw [HR.out], by rw [← e9]; exact P9H.out, HC.out.ext (ext_drewN (Below.refl _ _) _)⟩
            | true =>
              have heq : zl = zm := of_decide_eq_true HQ.out
              have e9 := POP.out
              rw [if_pos heq] at e9
              have uo : u ∈ s2.opn := HP.out.inv.sub.subset (by rw [HW.out]; simp)
              have hall : s2.all ≤ 1000000000000 := by have := HP.out.b2; omega
              have CL : Hid (∀ q, Calls Tryz.prog 136 #[.pointer (some ⟨wb, 0, none⟩), .int .i64 (u : Int)] (wc.drewN q) fun e w' => e = .returned (.tuple #[]) ∧ WalkV B2 n wb gb mb lb pb (K.popS s2 u rest) w' ∧ WMv B2 wb mb lb pb (wc.drewN q) w') := fun q => by
                have C := c_close B2 n wb gb mb lb pb sA u (wc.drewN q) (HC.out.val.ext (ext_drewN (Below.refl _ _) q)) (by rw [HSA.out]; exact uo) (by rw [HSA.out]; exact HP.out.inv.olt) (by rw [HSA.out]; exact HP.out.inv.lp) (by rw [HSA.out]; exact hall)
                rw [e9]
                refine C.mono fun e w' h => ⟨h.1, ?_, h.2.2⟩
                have h2 := h.2.1
                have e2 : sA.opn = s2.opn ∧ sA.part = s2.part ∧ sA.all = s2.all := by rw [HSA.out]; exact ⟨rfl, rfl, rfl⟩
                rw [e2.1, e2.2.1, e2.2.2] at h2
                exact h2
              clear uo hall e9 heq
              go_wp2
              go_quiet (fail)
              go_wp2_with (first | (go_at_call 136; (with_reducible refine (CL.out _).mono ?_); rintro e w9 ⟨rfl, p1, p2⟩) | fail)
              go_roundg (gk - 1)
              case measure => have := HF0.out; omega
              case rel =>
                have hway : (K.popS s2 u rest).way = rest := (K.popS_met s2 u rest).2
                refine ⟨K.popS s2 u rest, some ⟨gw, 0, none⟩, c, by rw [hway, HR.out], P9H.out, p1, ?_, ?_⟩
                · rw [hway]
                  have h3 := HC.out.row
                  rw [HSA.out] at h3
                  exact p2.2 _ _ _ (up_ext h3 (ext_drewN (Below.refl _ _) _))
                · exact ((HC.out.ext (ext_drewN (Below.refl _ _) _)).low).trans p2.1
        | true =>
          have hqn : (k : Int) < (L : Int) := of_decide_eq_true hq
          clear hq
          obtain ⟨t, ht⟩ : ∃ t, (g u)[k]? = some t := ⟨_, List.getElem?_eq_getElem (by rw [HLL.out]; omega)⟩
          obtain ⟨gu, rfl, hgu, n3⟩ := n2 k t ht
          go_wp2
          go_quiet (fail)
          go_upto_region 6 with (go_quiet (fail))
          refine wp_gen (fun W hW => ?_)
          have E1 : Ext wr W := by rw [hW]; exact ext_drewN (ext_drewN (Below.refl _ _) _) _
          have v1 := keep E1 w1
          have vf : W.frozen? ⟨gw, r * 2 + 1, none⟩ = false := (E1.frozen (p := ⟨gw, r * 2 + 1, none⟩) (World.block_lt_of_cell? wr ⟨gw, r * 2 + 1, none⟩ w1)).trans (wf _)
          have hk9 : k < 2000000 := by have := HGL.out; omega
          have q9 : IntKind.i64.wrap ((k : Int) + 1) = ((k + 1 : Nat) : Int) := by rw [IntKind.wrap_i64]; omega
          have MN := Lib.hid ((HM.out.ext E1).next HW.out (k + 1))
          simp only [HR.out] at MN
          have NX : Hid (stepW g s2 = if s2.met.getD t 0 = 0 then { meetS s2 t with way := (t, 0) :: (u, k + 1) :: rest } else if s2.part.getD t none = none then { s2 with low := s2.low.set u (min (s2.low.getD u 0) (s2.met.getD t 0)), way := (u, k + 1) :: rest } else { s2 with way := (u, k + 1) :: rest }) := by
            show _ = _
            unfold stepW
            rw [HW.out]
            simp only [ht]
          have htn : t < n := HG.out u hun1 t (List.mem_of_getElem? ht)
          have hti : (t : Int) < (n : Int) := by omega
          obtain ⟨hpos, P9⟩ := HP.out.step HG.out (by rw [HW.out]; simp) rfl
          have P9H := Lib.hid P9
          have hlm := HP.out.inv.lm
          have hll := HP.out.inv.ll
          have hlp := HP.out.inv.lp
          have hofew := opn_few HP.out.inv
          clear hW w0 w1 wf t0 n1 n2 n3 ht P9
          go_upto_region 7 with (fail)
          refine wp_gen (fun W1 hW1 => ?_)
          have M1 : FrM B2 n wb gb mb lb pb w { s2 with way := (u, k + 1) :: rest } (some ⟨gw, 0, none⟩) c W1 := by rw [hW1]; exact MN.out
          obtain ⟨a6, c6, T6, R6⟩ := M1.val.top
          have x1 : W1.cell? ⟨wb, 1, none⟩ = some (.slice (some ⟨mb, 0, none⟩) n n) := T6.cell (i := 1) rfl
          have x2 : W1.cell? ⟨wb, 2, none⟩ = some (.slice (some ⟨lb, 0, none⟩) n n) := T6.cell (i := 2) rfl
          have x3 : W1.cell? ⟨wb, 3, none⟩ = some (.slice (some ⟨pb, 0, none⟩) n n) := T6.cell (i := 3) rfl
          obtain ⟨zm, hzm⟩ : ∃ z, s2.met.getD t 0 = z := ⟨_, rfl⟩
          have l1 : W1.cell? ⟨mb, t, none⟩ = some (numV zm) := by rw [← hzm]; exact M1.val.met.cell (map_at numV (by rw [hlm]; exact htn))
          obtain ⟨q, hq⟩ : ∃ q, decide (zm = 0) = q := ⟨_, rfl⟩
          have hqi : ((zm : Int) == 0) = q := by
            rw [← hq, Bool.eq_iff_iff, beq_iff_eq, decide_eq_true_eq]
            omega
          have HZM := Lib.hid hzm
          have HQ := Lib.hid hq
          have HM1 := Lib.hid M1
          clear hW1 vf v1 T6 R6 hzm hq M1
          cases q with
          | true =>
            have hz0 : zm = 0 := of_decide_eq_true HQ.out
            have e9 := NX.out
            rw [if_pos (HZM.out.trans hz0)] at e9
            have hmet0 : s2.met0 ≤ 1000000000000 := by have := HP.out.b1; omega
            have ME := Lib.hid (c_meet B2 n wb gb mb lb pb { s2 with way := (u, k + 1) :: rest } t W1 HM1.out.val htn hlm hll hmet0 (show s2.opn.length ≤ 2000000 by omega))
            have hrow : Hid (W1.ownsRow B2 191 2 (.slice (some ⟨gw, 0, none⟩) (r + 1) c) (r + 1) (wayC ((u, k + 1) :: rest))) := by
              have h3 := HM1.out.row
              unfold WayV at h3
              rw [show ((u, k + 1) :: rest).length = r + 1 by simp [HR.out]] at h3
              exact h3
            have hr2 : r + 1 ≤ 2000000 := by omega
            have hwl : Hid (((u, k + 1) :: rest).length = r + 1) := by show _ = _; simp [HR.out]
            have P9S : Hid (FrP n g v m0 R Cm (gk - 1) { meetS s2 t with way := (t, 0) :: (u, k + 1) :: rest }) := by rw [← e9]; exact P9H.out
            clear e9 hmet0 NX P9H hz0
            go_wp2_with (first
              | (go_at_call 135; (with_reducible refine ME.out.mono ?_); rintro e w9 ⟨rfl, p1, p2⟩; have row9 := p2.2 _ _ _ hrow.out; have sz9 := p1.sz; have M9 := Lib.hid (And.intro p1 p2); clear p1 p2)
              | (at_builtin; refine wpList_push_frame w9 (t : Int) 0 B2 (some ⟨gw, 0, none⟩) (r + 1) c _ row9 hr2 sz9 rfl _ _ rfl rfl rfl ?_; intro g6 c6 w6 p3 p4; have P6 := Lib.hid (And.intro p3 p4); clear p3 p4)
              | fail)
            go_roundg (gk - 1)
            case measure => have := HF0.out; omega
            case rel =>
              have F9 : FrM B2 n wb gb mb lb pb w { meetS s2 t with way := (u, k + 1) :: rest } (some ⟨gw, 0, none⟩) c w9 := ⟨M9.out.1, by
                unfold WayV
                rw [hwl.out]
                exact row9, HM1.out.low.trans M9.out.2.1⟩
              have F6 := F9.push rfl (t, 0) (by rw [hwl.out]; exact P6.out.1) (by rw [hwl.out]; exact P6.out.2)
              refine ⟨_, _, _, ?_, P9S.out, F6⟩
              show _ = Value.slice _ ((t, 0) :: (u, k + 1) :: rest).length _
              rw [List.length_cons, hwl.out]
          | false =>
            have hz0 : ¬ zm = 0 := of_decide_eq_false HQ.out
            have e9 := NX.out
            rw [if_neg (fun e => hz0 (HZM.out.symm.trans e))] at e9
            obtain ⟨po, hpo⟩ : ∃ o, s2.part.getD t none = o := ⟨_, rfl⟩
            have l3 : W1.cell? ⟨pb, t, none⟩ = some (optV po) := by rw [← hpo]; exact HM1.out.val.part.cell (map_at optV (by rw [hlp]; exact htn))
            obtain ⟨_, e, _, y0, _⟩ := WayV.top (show WayV W1 B2 ((u, k + 1) :: rest) (some ⟨gw, 0, none⟩) c from HM1.out.row)
            cases e
            simp only [HR.out] at y0
            rw [hpo] at e9
            have HE9 := Lib.hid e9
            have HPO := Lib.hid hpo
            clear e9 hpo NX hz0
            cases po with
            | some pa =>
              have hpa : ¬ (pa : Int) < 0 := by omega
              change W1.cell? ⟨pb, t, none⟩ = some (.int .i64 (pa : Int)) at l3
              go_wp2
              go_roundg (gk - 1)
              case measure => omega
              case rel => exact ⟨_, k + 1, rfl, rfl, by have := P9H.out; rw [HE9.out, if_neg (by simp)] at this; exact this, HM1.out, by omega⟩
            | none =>
              change W1.cell? ⟨pb, t, none⟩ = some (.int .i64 (-1)) at l3
              obtain ⟨zl, hzl⟩ : ∃ z, s2.low.getD u 0 = z := ⟨_, rfl⟩
              have l2 : W1.cell? ⟨lb, u, none⟩ = some (numV zl) := by rw [← hzl]; exact HM1.out.val.low.cell (map_at numV (by rw [hll]; exact hun1))
              have l4 : W1.drew.frozen? ⟨lb, u, none⟩ = false := HM1.out.val.low.free u
              have ML := Lib.hid (HM1.out.low' u (min zl zm))
              have HZL := Lib.hid hzl
              clear hzl
              go_upto_region 11 with (fail)
              go_still_tail 26, (by kernel_rfl)
              change wpList _ _ _ _ _ W1.drew
              go_wp2
              all_goals
                go_roundg (gk - 1)
                case measure => omega
                case rel =>
                  have P8 := P9H.out
                  rw [HE9.out, if_pos trivial, HZL.out, HZM.out] at P8
                  have M9 := ML.out
                  refine ⟨_, k + 1, rfl, ?_, P8, ?_, by omega⟩
                  · rfl
                  · first
                      | (rw [show min zl zm = zl by omega] at M9 ⊢; exact M9.ext (ext_drew (Below.refl _ _)))
                      | (rw [show min zl zm = zm by omega] at M9 ⊢; exact M9.ext (ext_drew (Below.refl _ _)))
                      | (rw [show min (zl : Int) (zm : Int) = ((min zl zm : Nat) : Int) by omega]; exact M9.ext (ext_drew (Below.refl _ _)))
end Go.Proofs.YtlalgaioiapjmaaGreatDoor
