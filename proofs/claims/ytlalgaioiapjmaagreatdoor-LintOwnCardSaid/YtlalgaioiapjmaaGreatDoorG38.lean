/- The walk of strata.weave where the check passes. -/
import Derived.Test.YtlalgaioiapjmaaGreatDoorG37
import Derived.StillTailTactics
import Derived.Deep.LoopGhost
namespace Go.Proofs.YtlalgaioiapjmaaGreatDoor
open Go.ChangeShapes Go.WideShapes Go.ChangeAt Go.RowKit
open K (AL Rule checkP RuleV)
def WeavePost (rs : List Rule) (w : World) (e : Ending) (w' : World) : Prop := ∃ wb, e = .returned (.tuple #[.pointer (some ⟨wb, 0, none⟩), .int .i64 0]) ∧ WebV rs w.heap.size wb w' ∧ Ext w w'
set_option linter.unusedSimpArgs false in
set_option maxRecDepth 100000 in
set_option maxHeartbeats 4000000 in
theorem c_weave (rs : List Rule) (a : Option Addr) (n cap : Nat) (w : World) (h : RulesAt w a n rs) (h0 : checkP rs = 0) :
    Calls Tryz.prog 26 #[.agg #[.slice a n cap]] w (WeavePost rs w) := by
  have CK : Hid (∀ o, Calls Tryz.prog 58 #[.agg #[.slice a n cap]] (w.alloc o) fun e w' => ∃ i : Int, e = .returned (.tuple #[.int .i64 i, .int .i64 0]) ∧ Ext (w.alloc o) w') := fun o => by
    have := c_check rs a n cap _ (h.keep (ext_alloc (Below.refl _ _) o))
    unfold CheckPost at this
    rw [h0] at this
    exact this
  have P0 : Hid ((w.alloc (.cells #[.slice a n cap] 24)).cell? ⟨w.heap.size, 0, none⟩ = some (.slice a n cap)) := by show _ = _; go_simp
  obtain rfl : rs.length = n := h.2.1
  have hn := h.1
  have HR := Lib.hid h
  have hmm := @run_makeMap Tryz.prog
  clear h
  go_enter Tryz.func26, Tryz.ntmps26
  go_wp2
  go_step3
  go_upto_block 0 with (go_at_call 58; (with_reducible refine (CK.out _).mono ?_); rintro e w2 ⟨i2, rfl, E2⟩; have d0 := keep E2 P0.out)
  refine wp_gen (fun W hW => ?_)
  have E3 : Ext w2 W := by rw [hW]; exact ext_alloc (ext_alloc (ext_alloc (Below.refl _ _) _) _) _
  have E0 : Ext w W := ext_trans (ext_trans (ext_alloc (Below.refl _ _) _) E2) E3
  have hz : w.heap.size ≤ w2.heap.size := (ext_trans (ext_alloc (Below.refl _ w) _) E2).size
  have S0 : WvSt w (w2.heap.size + 1) w2.heap.size (w2.heap.size + 1 + 1) (.slice none 0 0) (.slice none 0 0) [] [] W := by
    refine ⟨E0, ?_, ?_, ?_, by omega⟩
    · rw [hW]
      exact ((LMap.made (kenc := Value.string) (ok := okS) w2).ext (ext_alloc (Below.refl _ _) _)).ext (ext_alloc (Below.refl _ _) _)
    · rw [hW]
      have := LMap.made (kenc := pairV) (ok := okP) ((w2.alloc (.map #[] 0)).alloc (.cells #[.slice none 0 0, .map (some w2.heap.size), .slice none 0 0] 82))
      rw [World.size_alloc, World.size_alloc] at this
      exact this
    · rw [hW]
      have := Blk.new (w2.alloc (.map #[] 0)) [.slice none 0 0, .map (some w2.heap.size), .slice none 0 0] 82
      rw [World.size_alloc] at this
      exact this.ext (ext_alloc (Below.refl _ _) _)
  have D0 := keep E3 d0
  obtain ⟨mi, hmi⟩ : ∃ mi, w2.heap.size = mi := ⟨_, rfl⟩
  obtain ⟨wb, hwb⟩ : ∃ wb, w2.heap.size + 1 = wb := ⟨_, rfl⟩
  obtain ⟨mq, hmq⟩ : ∃ mq, w2.heap.size + 1 + 1 = mq := ⟨_, rfl⟩
  rw [hmq, hwb, hmi] at S0 ⊢
  have HS0 := Lib.hid S0
  clear S0 hmi hwb hmq hW E3 E2 d0 hz hmm
  go_step3
  go_upto_block 0 with (fail)
  go_cut [] (fun wc => WvSt w wb mi mq (.slice none 0 0) (.slice none 0 0) (nmP rs) (pqP rs) wc)
  case first =>
    go_wp2
    go_loopw [34] (fun v wr => ∃ k : Nat, k ≤ rs.length ∧ v = .int .i64 (k : Int) ∧ WvSt w wb mi mq (.slice none 0 0) (.slice none 0 0) (nmP (rs.take k)) (pqP (rs.take k)) wr) (fun v _ => rs.length - (intOf v).toNat)
    case atStart => exact ⟨0, Nat.zero_le _, rfl, HS0.out⟩
    case round =>
      obtain ⟨k, hk, rfl, st⟩ := hrel
      have ST := Lib.hid st
      by_cases hlt : k < rs.length
      · have hki : (k : Int) < (rs.length : Int) := by omega
        obtain ⟨r, eb, eo, hx, rfl, ah, nh, ch, ab, nb, cb, c0, c1, c2, hr⟩ := HR.out.2.at hlt
        have c0 := keep st.ext c0
        have c1 := keep st.ext c1
        have c2 := keep st.ext c2
        obtain ⟨ag, hag⟩ : ∃ ag, r.head.terms.any aggT = ag := ⟨_, rfl⟩
        have HX := Lib.hid hx
        have HRV := Lib.hid hr
        obtain ⟨N0, hN0⟩ : ∃ N, nmP (rs.take k) = N := ⟨_, rfl⟩
        obtain ⟨Q0, hQ0⟩ : ∃ N, pqP (rs.take k) = N := ⟨_, rfl⟩
        have NN : Hid (nmP (rs.take (k + 1)) = r.body.foldl nmL (putL N0 r.head.pred 0)) := by
          show _ = _
          rw [← hN0, nmP, take_at hx, List.foldl_append]
          rfl
        have QQ : Hid (pqP (rs.take (k + 1)) = r.body.foldl (pqL r.head.pred ag) Q0) := by
          show _ = _
          rw [← hQ0, ← hag, pqP, take_at hx, List.foldl_append]
          rfl
        rw [hN0, hQ0] at ST
        have AGG : Hid (∀ W, Ext w W → Calls Tryz.prog 59 #[.agg #[.string r.head.pred, .slice ah nh ch]] W fun e w' => e = .returned (.bool ag) ∧ Ext W w') := fun W e => by
          have := c_aggregate r.head.pred r.head.terms ah nh ch W (hr.terms.keep e)
          rwa [hag] at this
        clear hx hr st hN0 hQ0 hag
        go_wp2
        go_upto_region 9 with (fail)
        refine wp_gen (fun W1 hW1 => ?_)
        have E1 : Ext wr W1 := by rw [hW1]; exact ext_alloc (Below.refl _ _) _
        have ST1 := ST.out.up E1
        have c0 : W1.cell? ⟨wr.heap.size, 0, none⟩ = some (.string r.head.pred) := by rw [hW1]; go_simp
        have c1 : W1.cell? ⟨wr.heap.size, 1, none⟩ = some (.slice ah nh ch) := by rw [hW1]; go_simp
        have c2 : W1.cell? ⟨wr.heap.size, 2, none⟩ = some (.slice ab nb cb) := by rw [hW1]; go_simp
        obtain ⟨rb, hrb⟩ : ∃ rb, wr.heap.size = rb := ⟨_, rfl⟩
        rw [hrb] at c0 c1 c2 ⊢
        have hwr := ST.out.ext.size
        have hrb1 : rb < W1.heap.size := World.block_lt_of_cell? W1 ⟨rb, 0, none⟩ c0
        have hmi := ST.out.nm.lt
        have hmq := ST.out.pq.lt
        have SP : Hid (mi < rb ∧ mq < rb ∧ rb < W1.heap.size ∧ w.heap.size ≤ rb) := ⟨by omega, by omega, hrb1, by omega⟩
        have d1 := ST1.web.cell (i := 1) rfl
        obtain ⟨o1, hu1, hm1⟩ := ST1.drew.nm.set Tryz.underlying79 r.head.pred HRV.out.pred 0
        have hu1 : (Instr.mapUpdate 79 (.map (some mi)) (.string r.head.pred) (.int .i64 0)).run Tryz.prog W1.drew = .ok () (K.setMap W1.drew mi o1) := hu1
        have ST2 := Lib.hid (ST1.drew.name hm1)
        have B2 := Lib.hid (setMap_but W1.drew mi o1)
        have HE1 := Lib.hid E1
        clear hW1 E1 ST1 hm1 hwr hrb hrb1 hmi hmq
        go_step3
        go_upto_region 9 with (fail)
        go_still_tail 7, (by kernel_rfl)
        change wpList _ _ _ _ _ W1.drew
        go_upto_region 10 with (fail)
        obtain ⟨W2, hW2⟩ : ∃ W2, K.setMap W1.drew mi o1 = W2 := ⟨_, rfl⟩
        rw [hW2] at ST2 B2 ⊢
        have B12 : Hid (ButS (fun x => x = mi) W1 W2) := ((ButS.refl _ W1).ext (ext_drew (Below.refl _ _))).trans B2.out
        have FB : Hid (∀ W', Ext W2 W' → W'.cell? ⟨rb, 0, none⟩ = some (.string r.head.pred) ∧ W'.cell? ⟨rb, 1, none⟩ = some (.slice ah nh ch) ∧ W'.cell? ⟨rb, 2, none⟩ = some (.slice ab nb cb)) := fun W' e => by
          have h1 := SP.out.1
          exact ⟨keep e (B12.out.cell (by show ¬ rb = mi; omega) c0), keep e (B12.out.cell (by show ¬ rb = mi; omega) c1), keep e (B12.out.cell (by show ¬ rb = mi; omega) c2)⟩
        clear hW2 hu1 c0 c1 c2 d1
        obtain ⟨c0, c1, c2⟩ := FB.out W2 (Below.refl _ _)
        have E02 := ST2.out.ext
        have HT := Lib.hid HRV.out.body
        obtain rfl : r.body.length = nb := HT.out.2.1
        have hbn := HT.out.1
        obtain ⟨z, hz⟩ : ∃ z, ((r.body.length : Int) == 0) = z := ⟨_, rfl⟩
        cases z with
        | true =>
          have hb0 : r.body = [] := List.length_eq_zero_iff.1 (by have := eq_of_beq hz; omega)
          have N2 : Hid (nmP (rs.take (k + 1)) = putL N0 r.head.pred 0) := by
            show _ = _
            rw [NN.out, hb0]
            rfl
          have Q2 : Hid (pqP (rs.take (k + 1)) = Q0) := by
            show _ = _
            rw [QQ.out, hb0]
            rfl
          have ST3 : Hid (WvSt w wb mi mq (.slice none 0 0) (.slice none 0 0) (nmP (rs.take (k + 1))) (pqP (rs.take (k + 1))) W2) := by
            have := ST2.out
            rw [putA_eq, ← N2.out, ← Q2.out] at this
            exact this
          clear hb0 N2 Q2 NN QQ
          go_wp2
          rw [Exit.noGoto_exit]
          go_wp2
          go_roundw
          case rel => exact ⟨k + 1, by omega, by go_num, ST3.out⟩
          case measure => simp [intOf]; omega
        | false =>
          have AGW := Lib.hid (AGG.out W2 E02)
          clear AGG
          go_upto_if 51 with (go_at_call 59; (with_reducible refine AGW.out.mono ?_); rintro e w3 ⟨rfl, e3⟩)
          have ST3 := Lib.hid (ST2.out.up e3)
          have FB3 : Hid (∀ W', Ext w3 W' → W'.cell? ⟨rb, 0, none⟩ = some (.string r.head.pred) ∧ W'.cell? ⟨rb, 1, none⟩ = some (.slice ah nh ch) ∧ W'.cell? ⟨rb, 2, none⟩ = some (.slice ab r.body.length cb)) := fun W' e => FB.out W' (ext_trans e3 e)
          have hz3 : rb < w3.heap.size := Nat.lt_of_lt_of_le (World.block_lt_of_cell? W2 ⟨rb, 0, none⟩ c0) e3.size
          have SP3 : Hid (mi < rb ∧ mq < rb ∧ rb < w3.heap.size ∧ w.heap.size ≤ rb) := ⟨SP.out.1, SP.out.2.1, hz3, SP.out.2.2.2⟩
          clear c0 c1 c2 FB ST2 B2 B12 e3 AGW hz3 SP E02 HE1
          go_cut [10] (fun v wc => v = .int .i64 (((if ag then 1 else 0 : Nat)) : Int) ∧ wc = w3)
          case first =>
            cases ag with
            | true =>
              go_wp2
              go_meet
              exact ⟨rfl, rfl⟩
            | false =>
              go_wp2
              go_meet
              exact ⟨rfl, rfl⟩
          obtain ⟨rfl, hwc⟩ := hcut
          obtain rfl := hwc.symm
          obtain ⟨c0, c1, c2⟩ := FB3.out _ (Below.refl _ _)
          obtain ⟨al, hal⟩ : ∃ al : Nat, (if ag then 1 else 0) = al := ⟨_, rfl⟩
          rw [hal]
          have HAL := Lib.hid hal
          have HZ := Lib.hid hz
          clear hal hz
          have ST4 : Hid (WvSt w wb mi mq (.slice none 0 0) (.slice none 0 0) (putL N0 r.head.pred 0) Q0 w3) := by
            have := ST3.out
            rwa [putA_eq] at this
          obtain ⟨N1, hN1⟩ : ∃ N, putL N0 r.head.pred 0 = N := ⟨_, rfl⟩
          rw [hN1] at ST4 NN
          clear ST3 hN1
          have HCC := Lib.hid (And.intro c0 (And.intro c1 c2))
          go_wp2
          go_step3
          go_upto_block 2 with (fail)
          go_wp2
          go_loopw [55] (fun v wr => ∃ j : Nat, j ≤ r.body.length ∧ v = .int .i64 (j : Int) ∧ WvSt w wb mi mq (.slice none 0 0) (.slice none 0 0) ((r.body.take j).foldl nmL N1) ((r.body.take j).foldl (pqL r.head.pred ag) Q0) wr ∧ wr.cell? ⟨rb, 0, none⟩ = some (.string r.head.pred) ∧ rb < wr.heap.size) (fun v _ => r.body.length - (intOf v).toNat)
          case atStart => exact ⟨0, Nat.zero_le _, rfl, ST4.out, HCC.out.1, SP3.out.2.2.1⟩
          case round =>
            obtain ⟨j, hj, rfl, st, f0, frb⟩ := hrel
            have ST5 := Lib.hid st
            have hmi := st.nm.lt
            have hmq := st.pq.lt
            by_cases hjl : j < r.body.length
            · have hji : (j : Int) < (r.body.length : Int) := by omega
              obtain ⟨x, lb, lo, hx, hxa, la, ln, lc, l0, l1, l2, l3, l4, l5, l6, l7, _, _, hxp, _⟩ := HT.out.2.at hjl
              subst hxa
              have hE := st.ext
              have l0 := keep hE l0
              have l1 := keep hE l1
              have l2 := keep hE l2
              have l3 := keep hE l3
              have l4 := keep hE l4
              have l5 := keep hE l5
              have l6 := keep hE l6
              have l7 := keep hE l7
              have HXP := Lib.hid hxp
              obtain ⟨N2, hN2⟩ : ∃ N, (r.body.take j).foldl nmL N1 = N := ⟨_, rfl⟩
              obtain ⟨Q2, hQ2⟩ : ∃ N, (r.body.take j).foldl (pqL r.head.pred ag) Q0 = N := ⟨_, rfl⟩
              have NX : Hid ((r.body.take (j + 1)).foldl nmL N1 = nmL N2 x) := by
                show _ = _
                rw [← hN2, take_at hx, List.foldl_append]
                rfl
              have QX : Hid ((r.body.take (j + 1)).foldl (pqL r.head.pred ag) Q0 = pqL r.head.pred ag Q2 x) := by
                show _ = _
                rw [← hQ2, take_at hx, List.foldl_append]
                rfl
              rw [hN2, hQ2] at ST5
              clear hx hN2 hQ2 hxp st hE
              obtain ⟨b3, hb3⟩ : ∃ b, (x.kind == 3) = b := ⟨_, rfl⟩
              cases b3 with
              | true =>
                have hk3 : x.kind = 3 := eq_of_beq hb3
                have ST6 : Hid (WvSt w wb mi mq (.slice none 0 0) (.slice none 0 0) ((r.body.take (j + 1)).foldl nmL N1) ((r.body.take (j + 1)).foldl (pqL r.head.pred ag) Q0) wr) := by
                  rw [NX.out, QX.out]
                  unfold nmL pqL
                  rw [if_pos hk3, if_pos hk3]
                  exact ST5.out
                clear hk3 NX QX
                go_wp2
                go_roundw
                case rel => exact ⟨j + 1, by omega, by go_num, ST6.out.up (ext_alloc (Below.refl _ _) _), keep (ext_alloc (Below.refl _ _) _) f0, by simp; omega⟩
                case measure => simp [intOf]; omega
              | false =>
                have hk3 : ¬ x.kind = 3 := ne_of_beq_false hb3
                have NX2 : Hid ((r.body.take (j + 1)).foldl nmL N1 = putL N2 x.atom.pred 0) := by
                  show _ = _
                  rw [NX.out, nmL, if_neg hk3]
                have QX2 : Hid ((r.body.take (j + 1)).foldl (pqL r.head.pred ag) Q0 = putL Q2 (r.head.pred, x.atom.pred) (max ((getL Q2 (r.head.pred, x.atom.pred)).getD 0) (wt1 ag x))) := by
                  show _ = _
                  rw [QX.out, pqL, if_neg hk3]
                obtain ⟨b2, hb2⟩ : ∃ b, (x.kind == 2) = b := ⟨_, rfl⟩
                have WT : Hid (wt1 ag x = if b2 then 1 else al) := by
                  show _ = _
                  rw [← HAL.out, ← hb2]
                  unfold wt1
                  by_cases h : x.kind = 2 <;> simp [h]
                clear hk3 NX QX
                go_upto_block 4 with (fail)
                refine wp_gen (fun W5 hW5 => ?_)
                have E5 : Ext wr W5 := by rw [hW5]; exact ext_alloc (Below.refl _ _) _
                have g1 : W5.cell? ⟨wr.heap.size, 1, none⟩ = some (.string x.atom.pred) := by rw [hW5]; go_simp
                obtain ⟨bx, hbx⟩ : ∃ bx, wr.heap.size = bx := ⟨_, rfl⟩
                rw [hbx] at g1 ⊢
                have hbx5 : bx < W5.heap.size := World.block_lt_of_cell? W5 ⟨bx, 1, none⟩ g1
                have S5 := Lib.hid (ST5.out.up E5)
                have F5 := Lib.hid (keep E5 f0)
                have SZ5 : Hid (mi < bx ∧ mq < bx ∧ rb < bx ∧ bx < W5.heap.size) := ⟨by omega, by omega, by omega, hbx5⟩
                clear hW5 E5 l0 l1 l2 l3 l4 l5 l6 l7 ST5 f0 frb hmi hmq hbx hbx5
                go_cut [13] (fun v wc => v = .int .i64 ((if b2 then 1 else al : Nat) : Int) ∧ wc = W5)
                case first =>
                  cases b2 with
                  | true =>
                    go_wp2
                    go_meet
                    exact ⟨rfl, rfl⟩
                  | false =>
                    go_wp2
                    go_meet
                    exact ⟨rfl, rfl⟩
                obtain ⟨rfl, hwc⟩ := hcut
                obtain rfl := hwc.symm
                rw [← WT.out]
                have d1 := S5.out.web.cell (i := 1) rfl
                obtain ⟨o5, hu5, hm5⟩ := S5.out.drew.nm.set Tryz.underlying79 x.atom.pred HXP.out 0
                have hu5 : (Instr.mapUpdate 79 (.map (some mi)) (.string x.atom.pred) (.int .i64 0)).run Tryz.prog W5.drew = .ok () (K.setMap W5.drew mi o5) := hu5
                have S6 := Lib.hid (S5.out.drew.name hm5)
                have B6 := Lib.hid (setMap_but W5.drew mi o5)
                clear hm5 hwc
                go_upto_region 22 with (fail)
                go_still_tail 7, (by kernel_rfl)
                change wpList _ _ _ _ _ W5.drew
                go_upto_region 23 with (fail)
                obtain ⟨W6, hW6⟩ : ∃ W6, K.setMap W5.drew mi o5 = W6 := ⟨_, rfl⟩
                rw [hW6] at S6 B6 ⊢
                have B56 : ButS (fun x => x = mi) W5 W6 := ((ButS.refl _ W5).ext (ext_drew (Below.refl _ _))).trans B6.out
                have F6 := B56.cell (by show ¬ rb = mi; have := SZ5.out; have := SP3.out; omega) F5.out
                have g1 := B56.cell (by show ¬ bx = mi; have := SZ5.out; omega) g1
                have z6 := B56.size
                have FF6 := Lib.hid F6
                clear hW6 hu5 B6 S5 F5 B56 d1
                go_upto_region 24 with (fail)
                refine wp_gen (fun W7 hW7 => ?_)
                have E7 : Ext W6 W7 := by rw [hW7]; exact ext_alloc (Below.refl _ _) _
                have p0 : W7.cell? ⟨W6.heap.size, 0, none⟩ = some (.string r.head.pred) := by rw [hW7]; go_simp
                have p1 : W7.cell? ⟨W6.heap.size, 1, none⟩ = some (.string x.atom.pred) := by rw [hW7]; go_simp
                have S7 := Lib.hid (S6.out.up E7)
                have F7 := Lib.hid (keep E7 FF6.out)
                have z7 := E7.size
                have ok7 : okP (r.head.pred, x.atom.pred) := ⟨HRV.out.pred, HXP.out⟩
                have gg := S7.out.drew.pq.get Tryz.underlying103 (r.head.pred, x.atom.pred) ok7
                obtain ⟨o7, hu7, hm7⟩ := S7.out.drew.pq.set Tryz.underlying103 (r.head.pred, x.atom.pred) ok7 (max ((getL Q2 (r.head.pred, x.atom.pred)).getD 0) (wt1 ag x))
                have S8 := Lib.hid (S7.out.drew.pair hm7)
                have B8 := Lib.hid (setMap_but W7.drew mq o7)
                have hq1 : rb ≠ mq := by have := SP3.out; omega
                obtain ⟨old, hold⟩ : ∃ n, (getL Q2 (r.head.pred, x.atom.pred)).getD 0 = n := ⟨_, rfl⟩
                obtain ⟨nw, hnw⟩ : ∃ n, wt1 ag x = n := ⟨_, rfl⟩
                rw [hold, hnw] at QX2
                rw [hold] at gg
                rw [hold, hnw] at hu7
                rw [hold, hnw] at S8
                rw [hnw] at WT ⊢
                clear hW7 hm7 hold hnw S6 FF6 F6 g1
                have gg : (Instr.lookup 103 (.map (some mq)) (.agg #[.string r.head.pred, .string x.atom.pred]) false).run Tryz.prog W7.drew = .ok (.int .i64 (old : Int)) W7.drew := gg
                have hu7 : (Instr.mapUpdate 103 (.map (some mq)) (.agg #[.string r.head.pred, .string x.atom.pred]) (.int .i64 (max (old : Int) (nw : Int)))).run Tryz.prog W7.drew = .ok () (K.setMap W7.drew mq o7) := by
                  have e9 : max (old : Int) (nw : Int) = ((max old nw : Nat) : Int) := by omega
                  rw [e9]
                  exact hu7
                go_still_tail 7, (by kernel_rfl)
                change wpList _ _ _ _ _ W7.drew
                have FIN : Hid (WvSt w wb mi mq (.slice none 0 0) (.slice none 0 0) ((r.body.take (j + 1)).foldl nmL N1) ((r.body.take (j + 1)).foldl (pqL r.head.pred ag) Q0) (K.setMap W7.drew mq o7)) := by
                  have := S8.out
                  rw [putA_eq, ← NX2.out, ← QX2.out] at this
                  exact this
                have FR : Hid ((K.setMap W7.drew mq o7).cell? ⟨rb, 0, none⟩ = some (.string r.head.pred)) := B8.out.cell hq1 (keep (ext_drew (Below.refl _ _)) F7.out)
                have FZ : Hid (rb < (K.setMap W7.drew mq o7).heap.size) := World.block_lt_of_cell? _ ⟨rb, 0, none⟩ FR.out
                clear S8 QX2 NX2 B8 hq1 z6 z7 S7 F7 WT p0 p1
                go_wp2
                go_roundw
                case rel => exact ⟨j + 1, by omega, by go_num, FIN.out, FR.out, FZ.out⟩
                case measure => simp [intOf]; omega
            · have hji : ¬ (j : Int) < (r.body.length : Int) := by omega
              obtain rfl : j = r.body.length := by omega
              rw [List.take_length] at ST5
              have ST6 : Hid (WvSt w wb mi mq (.slice none 0 0) (.slice none 0 0) (nmP (rs.take (k + 1))) (pqP (rs.take (k + 1))) wr) := by
                have := ST5.out
                rwa [← NN.out, ← QQ.out] at this
              clear st ST5 NN QQ
              go_wp2
              go_roundw
              case rel => exact ⟨k + 1, by omega, by go_num, ST6.out⟩
              case measure => simp [intOf]; omega
      · have hki : ¬ (k : Int) < (rs.length : Int) := by omega
        have hfin : rs.take k = rs := List.take_of_length_le (by omega)
        rw [hfin] at ST
        clear st hfin
        go_wp2
        go_meet
        exact ST.out
  have hnl : (nmP rs).length ≤ 512 := names_few h0
  have SRT := Lib.hid (c_sortedM mi ((nmP rs).map fun p : ByteArray × Nat => (p.1, numV p.2)) wc hcut.nm (by rw [List.length_map]; omega))
  have d1 := hcut.web.cell (i := 1) rfl
  have HCUT := Lib.hid hcut
  have KEY : Hid (∀ W, Calls Tryz.prog 61 #[.map (some mi)] W fun e w' => e = .returned (.func (.func 97) #[] #[.pointer (some ⟨W.heap.size, 0, none⟩)]) ∧ w' = W.alloc (.cells #[.map (some mi)] 79)) := fun W => c_keysM (some mi) W
  clear hcut hnl
  go_upto_region 28 with (first
    | (go_at_call 61; (with_reducible refine (KEY.out _).mono ?_); rintro e w3 ⟨rfl, rfl⟩)
    | (go_at_call 60; (with_reducible refine SRT.out.mono ?_); rintro e w4 ⟨v, ss, rfl, hpm, hown, e4⟩; (obtain ⟨an, cn, rfl, hcn⟩ := own_form hown); have b1 := HCUT.out.web.ext e4; have b0 := b1.cell (i := 0) rfl; have f0 := b1.free 0; have PM := Lib.hid hpm; have OW := Lib.hid hown; have E4 := Lib.hid e4; clear hpm hown e4 b1)
    | fail)
  have NQ : (ss.mergeSort leS).map bsOf = namesQ rs := names_of (by
    have := PM.out
    rw [List.map_map] at this
    exact this)
  have hsl : ss.length = (namesQ rs).length := by rw [← NQ]; simp
  have OW2 : Hid (w4.ownsRow wc.heap.size 9 1 (.slice an ss.length cn) ss.length ((namesQ rs).map Value.string)) := by
    have := OW.out
    rw [← NQ, List.map_map]
    exact this
  have hnf : ss.length ≤ 512 := by rw [hsl, namesQ_len]; exact names_few h0
  have S5 := Lib.hid ((HCUT.out.up E4.out).set0 (.slice an ss.length cn))
  obtain ⟨W5, hW5⟩ : ∃ W5, w4.setCell ⟨wb, 0, none⟩ (.slice an ss.length cn) = W5 := ⟨_, rfl⟩
  have hwc : wb < wc.heap.size := HCUT.out.web.lt
  have OW3 : Hid (W5.ownsRow wc.heap.size 9 1 (.slice an ss.length cn) ss.length ((namesQ rs).map Value.string)) := by
    show World.ownsRow _ _ _ _ _ _ _
    rw [← hW5]
    exact own_set_other OW2.out (.inr (fun e => by have := (OW2.out.lt wb e).1; omega)) _
  rw [hW5] at S5 ⊢
  obtain ⟨an', cn', hv, hst⟩ := K.own_strs OW3.out (by omega)
  cases hv
  have ST := Lib.hid hst
  have HSL := Lib.hid hsl
  have b0 := S5.out.web.cell (i := 0) rfl
  clear hW5 hwc NQ hsl hst OW OW2 PM E4 f0 d1 HCUT SRT KEY
  go_wp2
  have NSUB : Hid (∀ x ∈ namesQ rs, x ∈ (nmP rs).map (·.1)) := fun x hx => (namesQ_perm rs).mem_iff.1 hx
  have NSUB2 : Hid (∀ x ∈ (nmP rs).map (·.1), x ∈ namesQ rs) := fun x hx => (namesQ_perm rs).mem_iff.2 hx
  obtain ⟨nn, hnn⟩ : ∃ nn, ss.length = nn := ⟨_, rfl⟩
  rw [hnn] at S5 OW3 ST HSL b0 hnf ⊢
  clear hnn
  go_loopw [103] (fun v wr => ∃ i : Nat, i ≤ nn ∧ v = .int .i64 (i : Int) ∧ ∃ N', WvSt w wb mi mq (.slice an nn cn) (.slice none 0 0) N' (pqP rs) wr ∧ IdxI (namesQ rs) (nmP rs) i N' ∧ ButS (fun x => x = mi) W5 wr) (fun v _ => nn - (intOf v).toNat)
  case atStart => exact ⟨0, Nat.zero_le _, rfl, _, S5.out, ⟨rfl, fun j x hj => by omega⟩, ButS.refl _ _⟩
  case round =>
    obtain ⟨i, hi, rfl, N', st, ix, bt⟩ := hrel
    have HST := Lib.hid st
    have HIX := Lib.hid ix
    have HBT := Lib.hid bt
    by_cases hil : i < nn
    · have hii : (i : Int) < (nn : Int) := by omega
      obtain ⟨x, lb, lo, hx, hxa, l0⟩ := ST.out.at hil
      have hne : lb ≠ mi := fun e => by
        have := S5.out.nm.ne (p := ⟨lb, lo + i, none⟩) l0
        exact this e
      have l0 := bt.cell (show ¬ lb = mi from hne) l0
      have d1 := st.web.cell (i := 1) rfl
      subst hxa
      have hxm := NSUB.out x (List.mem_of_getElem? hx)
      obtain ⟨o5, hu5, hm5⟩ := st.nm.set Tryz.underlying79 x (S5.out.nm.okk hxm) i
      have ST6 : Hid (WvSt w wb mi mq (.slice (some ⟨lb, lo, none⟩) nn cn) (.slice none 0 0) (putL N' x i) (pqP rs) (K.setMap wr mi o5)) := by
        have := st.name hm5
        rwa [putA_eq] at this
      have IX6 := Lib.hid (ix.step (namesQ_nodup rs) NSUB.out hx)
      have BT6 := Lib.hid (bt.trans (setMap_but wr mi o5))
      clear st ix bt hm5 hxm hx HST HIX HBT
      go_wp2
      go_roundw
      case rel => exact ⟨i + 1, by omega, by go_num, _, ST6.out, IX6.out, BT6.out⟩
      case measure => simp [intOf]; omega
    · have hii : ¬ (i : Int) < (nn : Int) := by omega
      obtain rfl : i = nn := by omega
      have PM : Hid (∀ x, K.lookA N' x = posM (namesQ rs) x) := fun x => by
        rw [lookA_eq]
        have h1 := ix
        rw [HSL.out] at h1
        exact h1.done NSUB2.out x
      obtain ⟨WA, rfl⟩ : ∃ WA, WA = wr := ⟨_, rfl⟩
      have STN : Hid (K.StrsAt WA an i (namesQ rs)) := ⟨ST.out.1, ST.out.2.1, fun j s hj => by
        obtain ⟨b, off, h1, h2⟩ := ST.out.2.2 j s hj
        exact ⟨b, off, h1, bt.cell (show ¬ b = mi from S5.out.nm.ne (p := ⟨b, off + j, none⟩) h2) h2⟩⟩
      obtain ⟨oR, hrg, it0⟩ := LMap.range (P := Tryz.prog) (show LMap pairV okP WA mq ((pqP rs).map fun p => (p.1, numV p.2)) from st.pq) Tryz.underlying103
      have OWA : WA.ownsRow wc.heap.size 9 1 (.slice an i cn) i ((namesQ rs).map Value.string) := by
        obtain ⟨es, c, hm, _⟩ := S5.out.nm
        exact bt.own OW3.out (fun b hb q => own_ne_map OW3.out hm (by rw [hb, show b = mi from q]))
      have hwz : w.heap.size ≤ WA.heap.size := st.ext.size
      have ED0 : Hid (EdSt w wb mi mq WA.heap.size i an cn wc.heap.size (namesQ rs) N' (pqP rs) [] ((pqP rs).map fun p => (p.1, numV p.2)) none 0 (WA.alloc oR)) := by
        have e1 : Ext WA (WA.alloc oR) := ext_alloc (Below.refl _ _) _
        have h1 := st.web.lt
        have h2 := st.nm.lt
        have h3 := st.pq.lt
        exact ⟨st.up e1, it0, World.ownsRow_nil _ _ _ _, up_ext OWA e1, ⟨hwz, by omega, by omega, by omega⟩⟩
      have CHK := Lib.hid h0
      clear st ix bt HIX HBT b0 ST OW3 S5 it0 OWA hwz NSUB h0 HST
      go_wp2
      clear hrg hii
      refine wp_gen (fun W6 hW6 => ?_)
      obtain ⟨rb, hrb⟩ : ∃ rb, WA.heap.size = rb := ⟨_, rfl⟩
      rw [← hW6, hrb] at ED0
      have STN6 : Hid (K.StrsAt W6 an i (namesQ rs)) := by rw [hW6]; exact STN.out.keep (ext_alloc (Below.refl _ _) _)
      rw [hrb]
      clear hW6 hrb STN
      go_loopg [18] (pqP rs).length (fun g _ wr => ∃ done left ae ce, left.length = g ∧ EdSt w wb mi mq rb i an cn wc.heap.size (namesQ rs) N' (pqP rs) done left ae ce wr)
      case atStart => exact ⟨[], _, none, 0, by simp, ED0.out⟩
      case round =>
        obtain ⟨done, left, ae, ce, hg, ed⟩ := hrel
        have CL : Hid (∀ p ∈ (done ++ left), ∃ q ∈ pqP rs, p = (q.1, numV q.2)) := fun p hp => by
          obtain ⟨es, clock, since, seen, c0, _, _, _, _, _, _, _, _, h9, _⟩ := ed.it
          obtain ⟨q, hq, rfl⟩ := List.mem_map.1 (h9.mem_iff.1 hp)
          exact ⟨q, hq, rfl⟩
        have LEN : Hid ((done ++ left).length = (pqP rs).length) := by
          obtain ⟨es, clock, since, seen, c0, _, _, _, _, _, _, _, _, h9, _⟩ := ed.it
          have := h9.length_eq
          rwa [List.length_map] at this
        have ED := Lib.hid ed
        rcases ed.it.next 0 (P := Tryz.prog) with ⟨hl, hnx⟩ | ⟨p, left', W7, hpl, hnx, it', bt, hen⟩
        · clear ed
          subst hl
          have hperm : (done.map (edgeV (namesQ rs))).Perm ((pqP rs).map (edgeQ (namesQ rs))) := by
            obtain ⟨es, clock, since, seen, c0, _, _, _, _, _, _, _, _, h9, _⟩ := ED.out.it
            have h := h9.map (edgeV (namesQ rs))
            rw [edgeV_map, List.append_nil] at h
            exact h
          have SW := Lib.hid (c_sortW CHK.out hperm ED.out.own)
          have b2 := ED.out.st.web.cell (i := 2) rfl
          have FIN : Hid (∀ w', ButS (fun x => (Value.slice ae done.length ce).ownBlock = some x) wr w' → EdgesAt w' ae done.length (edgesQ rs) → WebV rs w.heap.size wb w' ∧ Ext w w') := fun w' b he => by
            have own := ED.out.own
            have st := ED.out.st
            have nms := ED.out.nms
            obtain ⟨_, _, hmi, _⟩ := st.nm
            have nm6 := b.own nms (fun x hx e => (own_ty nms hx).ne (own_ty own e) (by decide) rfl)
            obtain ⟨a9, c9, hv9, st9⟩ := K.own_strs nm6 (by omega)
            cases hv9
            have n1 : ¬ (Value.slice ae done.length ce).ownBlock = some wb := fun e => (own_ty own e).ne st.web.ty (by decide) rfl
            refine ⟨⟨st.sep.1, an, i, cn, mi, ae, done.length, ce, N', st.web.but b n1, st9, st.nm.but b (own_ne_map own hmi), PM.out, he⟩, ext_of_but st.ext b (fun x hx q => ?_)⟩
            have := (own.lt x q).1
            omega
          clear ED CL LEN hperm hg
          go_wp2_with (go_at_call 62; (with_reducible refine SW.out.mono ?_); rintro e w9 ⟨rfl, he9, hb9⟩; have F9 := Lib.hid (FIN.out _ hb9 he9); clear he9 hb9)
          rw [Exit.noGoto_ret]
          go_returns
          exact ⟨wb, rfl, F9.out.1, F9.out.2⟩
        · obtain ⟨st7, own7, nms7⟩ := ed.next bt
          have ED7 : EdSt w wb mi mq rb i an cn wc.heap.size (namesQ rs) N' (pqP rs) (done ++ [p]) left' ae ce W7 → True := fun _ => trivial
          obtain ⟨p1, hp1, hp2⟩ := CL.out p (List.mem_append_right _ (hpl.mem_iff.2 (List.mem_cons_self ..)))
          obtain ⟨k1, k2⟩ := p
          obtain ⟨ka, kb⟩ := k1
          have hk2 : k2 = numV p1.2 := congrArg Prod.snd hp2
          have hk1 : (ka, kb) = p1.1 := congrArg Prod.fst hp2
          have en7 : (Instr.entry (.pointer (some ⟨rb, 0, none⟩))).run Tryz.prog W7 = .ok (.tuple #[.agg #[.string ka, .string kb], k2]) W7 := hen W7 rfl rfl
          have nx7 : (Instr.next (.pointer (some ⟨rb, 0, none⟩)) false 0).run Tryz.prog wr = .ok (.tuple #[.bool true, .agg #[.string ka, .string kb], k2]) W7 := hnx
          clear ed hnx hen ED7 hp2
          subst hk2
          go_upto_region 36 with (fail)
          refine wp_gen (fun W8 hW8 => ?_)
          have E8 : Ext W7 W8 := by rw [hW8]; exact ext_alloc (Below.refl _ _) _
          have q0 : W8.cell? ⟨W7.heap.size, 0, none⟩ = some (.string ka) := by rw [hW8]; go_simp
          have q1 : W8.cell? ⟨W7.heap.size, 1, none⟩ = some (.string kb) := by rw [hW8]; go_simp
          have E9 : Ext W7 W8.drew := ext_drew E8
          have d1 : W8.cell? ⟨wb, 1, none⟩ = some (.map (some mi)) := (st7.up E8).web.cell (i := 1) rfl
          have b2 : W8.cell? ⟨wb, 2, none⟩ = some (.slice ae done.length ce) := (st7.up E8).web.cell (i := 2) rfl
          have b2o := fun o => keep (ext_alloc (Below.refl _ W8) o) b2
          obtain ⟨_, qa, _⟩ := pairs_all CHK.out
          have hma : ka ∈ namesQ rs := (namesQ_perm rs).mem_iff.2 (by have := (qa p1 hp1).1.1; rwa [← hk1] at this)
          have hmb : kb ∈ namesQ rs := (namesQ_perm rs).mem_iff.2 (by have := (qa p1 hp1).1.2; rwa [← hk1] at this)
          have hoa : okS ka := (by
            refine (st7.nm).okk ?_
            false_or_by_contra
            rename_i q
            have := PM.out ka
            rw [lookA_eq, getL_none.2 q, posM, if_pos hma] at this
            cases this)
          have hob : okS kb := (by
            refine (st7.nm).okk ?_
            false_or_by_contra
            rename_i q
            have := PM.out kb
            rw [lookA_eq, getL_none.2 q, posM, if_pos hmb] at this
            cases this)
          have OW8 := Lib.hid (up_ext own7 E9)
          have hb8 : w.heap.size ≤ W8.drew.heap.size := (st7.up E9).ext.size
          have hal : done.length ≤ 2000000 := by
            have h1 := LEN.out
            have h2 := (pairs_all CHK.out).2.2
            rw [List.length_append] at h1
            omega
          have LA : Hid (∀ wS, AMap wS mi N' → (Instr.lookup 79 (.map (some mi)) (.string ka) false).run Tryz.prog wS = .ok (.int .i64 ((namesQ rs).idxOf ka : Nat)) wS) := fun wS h => by
            have g := h.get Tryz.underlying79 ka hoa false
            rw [PM.out, posM, if_pos hma] at g
            exact g
          have LB : Hid (∀ wS, AMap wS mi N' → (Instr.lookup 79 (.map (some mi)) (.string kb) false).run Tryz.prog wS = .ok (.int .i64 ((namesQ rs).idxOf kb : Nat)) wS) := fun wS h => by
            have g := h.get Tryz.underlying79 kb hob false
            rw [PM.out, posM, if_pos hmb] at g
            exact g
          have hS8 : W8.drew.cell? ⟨wb, 1, none⟩ = some (.map (some mi)) ∧ W8.drew.cell? ⟨wb, 2, none⟩ = some (.slice ae done.length ce) ∧ W8.drew.cell? ⟨W7.heap.size, 0, none⟩ = some (.string ka) ∧ W8.drew.cell? ⟨W7.heap.size, 1, none⟩ = some (.string kb) ∧ AMap W8.drew mi N' := ⟨d1, b2, q0, q1, (st7.up E9).nm⟩
          have hS21 : Hid (∀ o, (W8.drew.alloc o).cell? ⟨wb, 1, none⟩ = some (.map (some mi)) ∧ (W8.drew.alloc o).cell? ⟨wb, 2, none⟩ = some (.slice ae done.length ce) ∧ (W8.drew.alloc o).cell? ⟨W7.heap.size, 0, none⟩ = some (.string ka) ∧ (W8.drew.alloc o).cell? ⟨W7.heap.size, 1, none⟩ = some (.string kb) ∧ AMap (W8.drew.alloc o) mi N') := fun o => by
            have e : Ext W8.drew (W8.drew.alloc o) := ext_alloc (Below.refl _ _) _
            exact ⟨keep e hS8.1, keep e hS8.2.1, keep e hS8.2.2.1, keep e hS8.2.2.2.1, hS8.2.2.2.2.ext e⟩
          have PU : Hid (∀ g c w6, w6.ownsRow w.heap.size 110 3 (.slice (some ⟨g, 0, none⟩) (done.length + 1) c) (done.length + 1) (edgesC (done.map (edgeV (namesQ rs))) ++ edgeC (edgeV (namesQ rs) ((ka, kb), numV p1.2))) → (W8.drew.alloc (.cells #[.int .i64 (edgeV (namesQ rs) ((ka, kb), numV p1.2)).src, .int .i64 (edgeV (namesQ rs) ((ka, kb), numV p1.2)).dst, .int .i64 (edgeV (namesQ rs) ((ka, kb), numV p1.2)).wt] 110)).grownBy w6 (Value.slice ae done.length ce).ownBlock →
              w6.cell? ⟨wb, 2, none⟩ = some (.slice ae done.length ce) ∧ w6.frozen? ⟨wb, 2, none⟩ = false ∧ EdSt w wb mi mq rb i an cn wc.heap.size (namesQ rs) N' (pqP rs) (done ++ [((ka, kb), numV p1.2)]) left' (some ⟨g, 0, none⟩) c (w6.setCell ⟨wb, 2, none⟩ (.slice (some ⟨g, 0, none⟩) (done.length + 1) c)) ∧
              (w6.cell? ⟨wb, 1, none⟩ = some (.map (some mi)) ∧ w6.cell? ⟨wb, 2, none⟩ = some (.slice ae done.length ce) ∧ w6.cell? ⟨W7.heap.size, 0, none⟩ = some (.string ka) ∧ w6.cell? ⟨W7.heap.size, 1, none⟩ = some (.string kb) ∧ AMap w6 mi N')) := fun g c w6 h1 h2 => by
            obtain ⟨x1, x2, x3⟩ := ed_push (p := ((ka, kb), numV p1.2)) (st7.up E9) (it'.ext E9) (up_ext own7 E9) (up_ext nms7 E9) ED.out.sep h1 h2
            have b6 : ButS (fun b => (Value.slice ae done.length ce).ownBlock = some b) W8.drew w6 := ((ButS.refl _ W8.drew).alloc _).grown h2 (fun b e => .inl e)
            have n1 : ¬ (Value.slice ae done.length ce).ownBlock = some wb := fun e => (own_ty own7 e).ne st7.web.ty (by decide) rfl
            have n2 : ¬ (Value.slice ae done.length ce).ownBlock = some mi := by
              obtain ⟨_, _, hmi, _⟩ := st7.nm
              exact own_ne_map own7 hmi
            have n3 : ¬ (Value.slice ae done.length ce).ownBlock = some W7.heap.size := fun e => by
              have := (own7.lt _ e).2
              omega
            exact ⟨x1, x2, x3, b6.cell n1 hS8.1, x1, b6.cell n3 hS8.2.2.1, b6.cell n3 hS8.2.2.2.1, hS8.2.2.2.2.but b6 n2⟩
          have mixed : Tryz.prog.follows .mixedOrders = true := by kernel_rfl
          have hlt : Hid (left'.length < gk) := by
            have := hpl.length_eq
            rw [List.length_cons] at this
            show _ < _
            omega
          clear hW8 st7 own7 nms7 it' bt en7 nx7 qa hma hmb E8 E9 hp1 hk1 hpl hg hoa hob d1 b2 b2o q0 q1
          refine region_last (fun w' => w'.cell? ⟨wb, 1, none⟩ = some (.map (some mi)) ∧ w'.cell? ⟨wb, 2, none⟩ = some (.slice ae done.length ce) ∧ w'.cell? ⟨W7.heap.size, 0, none⟩ = some (.string ka) ∧ w'.cell? ⟨W7.heap.size, 1, none⟩ = some (.string kb) ∧ AMap w' mi N') 25 mixed hS8 (fun hS0 => ?_)
          refine wpAnyG_take (i := 0) (oi := { dst := some 122, op := Go.Op.move (Go.Operand.tmp 6), type := 74, pos := "strata.go:74", after := #[], guard := none }) (v := ?_) rfl (by kernel_rfl) (by kernel_rfl) (by kernel_rfl) (by kernel_rfl) (fun _ _ _ h => h) (Or.inl ⟨by rfl, ?_⟩) (by assumption) ?_
          rotate_left
          focus (intro wS hS; go_simp; try with_reducible rfl)
          try simp only [Act.put, List.setIfInBounds_toArray, List.set_cons_zero, List.set_cons_succ]
          refine wpAnyG_take (i := 1) (oi := { dst := some 123, op := Go.Op.move (Go.Operand.tmp 6), type := 74, pos := "strata.go:74", after := #[], guard := none }) (v := ?_) rfl (by kernel_rfl) (by kernel_rfl) (by kernel_rfl) (by kernel_rfl) (fun _ _ _ h => h) (Or.inl ⟨by rfl, ?_⟩) (by assumption) ?_
          rotate_left
          focus (intro wS hS; go_simp; try with_reducible rfl)
          try simp only [Act.put, List.setIfInBounds_toArray, List.set_cons_zero, List.set_cons_succ]
          refine wpAnyG_take (i := 2) (oi := { dst := some 124, op := Go.Op.nilCheck (Go.Operand.tmp 123), type := 0, pos := "strata.go:74", after := #[{ on := 1, ground := Go.Ground.data }], guard := none }) (v := ?_) rfl (by kernel_rfl) (by kernel_rfl) (by kernel_rfl) (by kernel_rfl) (fun _ _ _ h => h) (Or.inl ⟨by rfl, ?_⟩) (by assumption) ?_
          rotate_left
          focus (intro wS hS; go_simp; try with_reducible rfl)
          try simp only [Act.put, List.setIfInBounds_toArray, List.set_cons_zero, List.set_cons_succ]
          refine wpAnyG_take (i := 3) (oi := { dst := some 125, op := Go.Op.fieldAddr 82 (Go.Operand.tmp 124) 2, type := 0, pos := "strata.go:74", after := #[{ on := 2, ground := Go.Ground.data }], guard := none }) (v := ?_) rfl (by kernel_rfl) (by kernel_rfl) (by kernel_rfl) (by kernel_rfl) (fun _ _ _ h => h) (Or.inl ⟨by rfl, ?_⟩) (by assumption) ?_
          rotate_left
          focus (intro wS hS; go_simp; try with_reducible rfl)
          try simp only [Act.put, List.setIfInBounds_toArray, List.set_cons_zero, List.set_cons_succ]
          refine wpAnyG_take (i := 4) (oi := { dst := some 126, op := Go.Op.load 80 (Go.Operand.tmp 125), type := 80, pos := "strata.go:74", after := #[{ on := 3, ground := Go.Ground.data }], guard := none }) (v := ?_) rfl (by kernel_rfl) (by kernel_rfl) (by kernel_rfl) (by kernel_rfl) (fun _ _ _ h => h) (Or.inl ⟨by rfl, ?_⟩) (by assumption) ?_
          rotate_left
          focus (intro wS hS; obtain ⟨s1, s2, s3, s4, _⟩ := hS; go_simp; try with_reducible rfl)
          try simp only [Act.put, List.setIfInBounds_toArray, List.set_cons_zero, List.set_cons_succ]
          refine wpAnyG_take (i := 5) (oi := { dst := some 127, op := Go.Op.move (Go.Operand.tmp 6), type := 74, pos := "strata.go:74", after := #[], guard := none }) (v := ?_) rfl (by kernel_rfl) (by kernel_rfl) (by kernel_rfl) (by kernel_rfl) (fun _ _ _ h => h) (Or.inl ⟨by rfl, ?_⟩) (by assumption) ?_
          rotate_left
          focus (intro wS hS; go_simp; try with_reducible rfl)
          try simp only [Act.put, List.setIfInBounds_toArray, List.set_cons_zero, List.set_cons_succ]
          refine wpAnyG_take (i := 6) (oi := { dst := some 128, op := Go.Op.nilCheck (Go.Operand.tmp 127), type := 0, pos := "strata.go:74", after := #[{ on := 5, ground := Go.Ground.data }], guard := none }) (v := ?_) rfl (by kernel_rfl) (by kernel_rfl) (by kernel_rfl) (by kernel_rfl) (fun _ _ _ h => h) (Or.inl ⟨by rfl, ?_⟩) (by assumption) ?_
          rotate_left
          focus (intro wS hS; go_simp; try with_reducible rfl)
          try simp only [Act.put, List.setIfInBounds_toArray, List.set_cons_zero, List.set_cons_succ]
          refine wpAnyG_take (i := 7) (oi := { dst := some 129, op := Go.Op.fieldAddr 82 (Go.Operand.tmp 128) 1, type := 0, pos := "strata.go:74", after := #[{ on := 6, ground := Go.Ground.data }], guard := none }) (v := ?_) rfl (by kernel_rfl) (by kernel_rfl) (by kernel_rfl) (by kernel_rfl) (fun _ _ _ h => h) (Or.inl ⟨by rfl, ?_⟩) (by assumption) ?_
          rotate_left
          focus (intro wS hS; go_simp; try with_reducible rfl)
          try simp only [Act.put, List.setIfInBounds_toArray, List.set_cons_zero, List.set_cons_succ]
          refine wpAnyG_take (i := 8) (oi := { dst := some 130, op := Go.Op.load 79 (Go.Operand.tmp 129), type := 79, pos := "strata.go:74", after := #[{ on := 7, ground := Go.Ground.data }], guard := none }) (v := ?_) rfl (by kernel_rfl) (by kernel_rfl) (by kernel_rfl) (by kernel_rfl) (fun _ _ _ h => h) (Or.inl ⟨by rfl, ?_⟩) (by assumption) ?_
          rotate_left
          focus (intro wS hS; obtain ⟨s1, s2, s3, s4, _⟩ := hS; go_simp; try with_reducible rfl)
          try simp only [Act.put, List.setIfInBounds_toArray, List.set_cons_zero, List.set_cons_succ]
          refine wpAnyG_take (i := 9) (oi := { dst := some 131, op := Go.Op.indexAddr 104 (Go.Operand.tmp 17) (Go.Operand.const (Go.Value.int Go.IntKind.i64 0)), type := 0, pos := "strata.go:74", after := #[], guard := none }) (v := ?_) rfl (by kernel_rfl) (by kernel_rfl) (by kernel_rfl) (by kernel_rfl) (fun _ _ _ h => h) (Or.inl ⟨by rfl, ?_⟩) (by assumption) ?_
          rotate_left
          focus (intro wS hS; go_simp; try with_reducible rfl)
          try simp only [Act.put, List.setIfInBounds_toArray, List.set_cons_zero, List.set_cons_succ]
          refine wpAnyG_take (i := 10) (oi := { dst := some 132, op := Go.Op.load 9 (Go.Operand.tmp 131), type := 9, pos := "strata.go:74", after := #[{ on := 9, ground := Go.Ground.data }], guard := none }) (v := ?_) rfl (by kernel_rfl) (by kernel_rfl) (by kernel_rfl) (by kernel_rfl) (fun _ _ _ h => h) (Or.inl ⟨by rfl, ?_⟩) (by assumption) ?_
          rotate_left
          focus (intro wS hS; obtain ⟨s1, s2, s3, s4, _⟩ := hS; go_simp; try with_reducible rfl)
          try simp only [Act.put, List.setIfInBounds_toArray, List.set_cons_zero, List.set_cons_succ]
          refine wpAnyG_take (i := 11) (oi := { dst := some 133, op := Go.Op.lookup 79 (Go.Operand.tmp 130) (Go.Operand.tmp 132) false, type := 3, pos := "strata.go:74", after := #[{ on := 8, ground := Go.Ground.data }, { on := 10, ground := Go.Ground.data }], guard := none }) (v := ?_) rfl (by kernel_rfl) (by kernel_rfl) (by kernel_rfl) (by kernel_rfl) (fun _ _ _ h => h) (Or.inl ⟨by rfl, ?_⟩) (by assumption) ?_
          rotate_left
          focus (intro wS hS; have ga := LA.out wS hS.2.2.2.2; go_simp; try with_reducible rfl)
          try simp only [Act.put, List.setIfInBounds_toArray, List.set_cons_zero, List.set_cons_succ]
          refine wpAnyG_take (i := 12) (oi := { dst := some 134, op := Go.Op.move (Go.Operand.tmp 6), type := 74, pos := "strata.go:74", after := #[], guard := none }) (v := ?_) rfl (by kernel_rfl) (by kernel_rfl) (by kernel_rfl) (by kernel_rfl) (fun _ _ _ h => h) (Or.inl ⟨by rfl, ?_⟩) (by assumption) ?_
          rotate_left
          focus (intro wS hS; go_simp; try with_reducible rfl)
          try simp only [Act.put, List.setIfInBounds_toArray, List.set_cons_zero, List.set_cons_succ]
          refine wpAnyG_take (i := 13) (oi := { dst := some 135, op := Go.Op.nilCheck (Go.Operand.tmp 134), type := 0, pos := "strata.go:74", after := #[{ on := 12, ground := Go.Ground.data }], guard := none }) (v := ?_) rfl (by kernel_rfl) (by kernel_rfl) (by kernel_rfl) (by kernel_rfl) (fun _ _ _ h => h) (Or.inl ⟨by rfl, ?_⟩) (by assumption) ?_
          rotate_left
          focus (intro wS hS; go_simp; try with_reducible rfl)
          try simp only [Act.put, List.setIfInBounds_toArray, List.set_cons_zero, List.set_cons_succ]
          refine wpAnyG_take (i := 14) (oi := { dst := some 136, op := Go.Op.fieldAddr 82 (Go.Operand.tmp 135) 1, type := 0, pos := "strata.go:74", after := #[{ on := 13, ground := Go.Ground.data }], guard := none }) (v := ?_) rfl (by kernel_rfl) (by kernel_rfl) (by kernel_rfl) (by kernel_rfl) (fun _ _ _ h => h) (Or.inl ⟨by rfl, ?_⟩) (by assumption) ?_
          rotate_left
          focus (intro wS hS; go_simp; try with_reducible rfl)
          try simp only [Act.put, List.setIfInBounds_toArray, List.set_cons_zero, List.set_cons_succ]
          refine wpAnyG_take (i := 15) (oi := { dst := some 137, op := Go.Op.load 79 (Go.Operand.tmp 136), type := 79, pos := "strata.go:74", after := #[{ on := 14, ground := Go.Ground.data }], guard := none }) (v := ?_) rfl (by kernel_rfl) (by kernel_rfl) (by kernel_rfl) (by kernel_rfl) (fun _ _ _ h => h) (Or.inl ⟨by rfl, ?_⟩) (by assumption) ?_
          rotate_left
          focus (intro wS hS; obtain ⟨s1, s2, s3, s4, _⟩ := hS; go_simp; try with_reducible rfl)
          try simp only [Act.put, List.setIfInBounds_toArray, List.set_cons_zero, List.set_cons_succ]
          refine wpAnyG_take (i := 16) (oi := { dst := some 138, op := Go.Op.indexAddr 104 (Go.Operand.tmp 17) (Go.Operand.const (Go.Value.int Go.IntKind.i64 1)), type := 0, pos := "strata.go:74", after := #[], guard := none }) (v := ?_) rfl (by kernel_rfl) (by kernel_rfl) (by kernel_rfl) (by kernel_rfl) (fun _ _ _ h => h) (Or.inl ⟨by rfl, ?_⟩) (by assumption) ?_
          rotate_left
          focus (intro wS hS; go_simp; try with_reducible rfl)
          try simp only [Act.put, List.setIfInBounds_toArray, List.set_cons_zero, List.set_cons_succ]
          refine wpAnyG_take (i := 17) (oi := { dst := some 139, op := Go.Op.load 9 (Go.Operand.tmp 138), type := 9, pos := "strata.go:74", after := #[{ on := 16, ground := Go.Ground.data }], guard := none }) (v := ?_) rfl (by kernel_rfl) (by kernel_rfl) (by kernel_rfl) (by kernel_rfl) (fun _ _ _ h => h) (Or.inl ⟨by rfl, ?_⟩) (by assumption) ?_
          rotate_left
          focus (intro wS hS; obtain ⟨s1, s2, s3, s4, _⟩ := hS; go_simp; try with_reducible rfl)
          try simp only [Act.put, List.setIfInBounds_toArray, List.set_cons_zero, List.set_cons_succ]
          refine wpAnyG_take (i := 18) (oi := { dst := some 140, op := Go.Op.lookup 79 (Go.Operand.tmp 137) (Go.Operand.tmp 139) false, type := 3, pos := "strata.go:74", after := #[{ on := 15, ground := Go.Ground.data }, { on := 17, ground := Go.Ground.data }], guard := none }) (v := ?_) rfl (by kernel_rfl) (by kernel_rfl) (by kernel_rfl) (by kernel_rfl) (fun _ _ _ h => h) (Or.inl ⟨by rfl, ?_⟩) (by assumption) ?_
          rotate_left
          focus (intro wS hS; have gb := LB.out wS hS.2.2.2.2; go_simp; try with_reducible rfl)
          try simp only [Act.put, List.setIfInBounds_toArray, List.set_cons_zero, List.set_cons_succ]
          refine wpAnyG_take (i := 19) (oi := { dst := some 141, op := Go.Op.move (Go.Operand.tmp 18), type := 3, pos := "strata.go:74", after := #[], guard := none }) (v := ?_) rfl (by kernel_rfl) (by kernel_rfl) (by kernel_rfl) (by kernel_rfl) (fun _ _ _ h => h) (Or.inl ⟨by rfl, ?_⟩) (by assumption) ?_
          rotate_left
          focus (intro wS hS; go_simp; try with_reducible rfl)
          try simp only [Act.put, List.setIfInBounds_toArray, List.set_cons_zero, List.set_cons_succ]
          refine wpAnyG_take (i := 20) (oi := { dst := some 142, op := Go.Op.build 110 #[(0, Go.Operand.tmp 133), (1, Go.Operand.tmp 140), (2, Go.Operand.tmp 141)], type := 110, pos := "strata.go:74", after := #[{ on := 11, ground := Go.Ground.data }, { on := 18, ground := Go.Ground.data }, { on := 19, ground := Go.Ground.data }], guard := none }) (v := ?_) rfl (by kernel_rfl) (by kernel_rfl) (by kernel_rfl) (by kernel_rfl) (fun _ _ _ h => h) (Or.inl ⟨by rfl, ?_⟩) (by assumption) ?_
          rotate_left
          focus (intro wS hS; go_simp; try with_reducible rfl)
          try simp only [Act.put, List.setIfInBounds_toArray, List.set_cons_zero, List.set_cons_succ]
          refine wpAnyG_one (i := 21) (by kernel_rfl) rfl (fun K hK => ?_)
          go_simp
          refine hK.out _ _ (fun hne => ?_) ?_
          · exact hS21.out _
          clear hK K
          try simp only [Act.put, List.setIfInBounds_toArray, List.set_cons_zero, List.set_cons_succ]
          refine wpAnyG_one (i := 22) (by kernel_rfl) rfl (fun K hK => ?_)
          refine step_push_edge W8.drew (edgeV (namesQ rs) ((ka, kb), numV p1.2)) w.heap.size ae done.length ce _ OW8.out hal hb8 (by rfl) _ _ (by rfl) (by rfl) (by rfl) ?_
          intro g6 c6 w6 p3 p4 p5
          obtain ⟨u0, u1, V2, hS22⟩ := PU.out g6 c6 w6 p3 p4
          have V2h := Lib.hid V2
          clear p3 p4 p5 V2
          refine hK.out _ _ (fun hne => ?_) ?_
          · exact hS22
          clear hK K
          try simp only [Act.put, List.setIfInBounds_toArray, List.set_cons_zero, List.set_cons_succ]
          refine wpAnyG_one (i := 23) (by kernel_rfl) rfl (fun K hK => ?_)
          go_simp
          refine hK.out _ _ (fun hne => ?_) ?_
          · exact hS22
          clear hK K
          try simp only [Act.put, List.setIfInBounds_toArray, List.set_cons_zero, List.set_cons_succ]
          refine wpAnyG_one (i := 24) (by kernel_rfl) rfl (fun K hK => ?_)
          go_simp
          refine hK.out _ _ (fun hne => ?_) ?_
          · exact hS22
          clear hK K
          try simp only [Act.put, List.setIfInBounds_toArray, List.set_cons_zero, List.set_cons_succ]
          refine wpAnyG_one (i := 25) (by kernel_rfl) rfl (fun K hK => ?_)
          go_simp
          refine hK.out _ _ (fun hne => ?_) ?_
          · exact absurd rfl hne
          clear hK K
          try simp only [Act.put, List.setIfInBounds_toArray, List.set_cons_zero, List.set_cons_succ]
          refine wpAnyG_done (by kernel_rfl) ?_ _
          go_wp2
          go_roundg left'.length
          case measure => exact hlt.out
          case rel => exact ⟨_, _, _, _, rfl, V2h.out⟩
end Go.Proofs.YtlalgaioiapjmaaGreatDoor
