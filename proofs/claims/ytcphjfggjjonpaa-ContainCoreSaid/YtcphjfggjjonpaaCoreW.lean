/- The walk of the law ContainCore. -/
import Derived.Test.YtcphjfggjjonpaaMin
import Derived.Test.YtcphjfggjjonpaaSameR
import Derived.Test.YtcphjfggjjonpaaOrder
namespace Go.Proofs.Ytcphjfggjjonpaa
open Go.ChangeShapes Go.WideShapes Go.ChangeAt Go.RowKit
set_option maxRecDepth 100000 in
set_option maxHeartbeats 4000000 in
theorem c_core (r s : Rule) (ah : Option Addr) (nh ch : Nat) (ab : Option Addr) (nb cb : Nat) (ah' : Option Addr) (nh' ch' : Nat) (ab' : Option Addr) (nb' cb' : Nat) (w : World) (hr : RuleV w r ah nh ch ab nb cb) (hs : RuleV w s ah' nh' ch' ab' nb' cb') :
    Calls Try.prog 8 #[.agg #[.string r.head.pred, .slice ah nh ch, .slice ab nb cb], .agg #[.string s.head.pred, .slice ah' nh' ch', .slice ab' nb' cb']] w fun e w' => e = .returned (.bool true) ∧ Ext w w' := by
  have HR := Lib.hid hr
  have HS := Lib.hid hs
  clear hr hs
  go_enter Try.func8, Try.ntmps8
  go_upto_region 1 with (fail)
  refine wp_gen (fun W0 hW => ?_)
  have hb0 : Ext w W0 := by rw [hW]; go_grown
  have rc0 : W0.cell? ⟨w.heap.size, 0, none⟩ = some (.string r.head.pred) := by rw [hW]; go_simp
  have rc1 : W0.cell? ⟨w.heap.size, 1, none⟩ = some (.slice ah nh ch) := by rw [hW]; go_simp
  have rc2 : W0.cell? ⟨w.heap.size, 2, none⟩ = some (.slice ab nb cb) := by rw [hW]; go_simp
  have sc0 : W0.cell? ⟨w.heap.size + 1, 0, none⟩ = some (.string s.head.pred) := by rw [hW]; go_simp
  have sc1 : W0.cell? ⟨w.heap.size + 1, 1, none⟩ = some (.slice ah' nh' ch') := by rw [hW]; go_simp
  have sc2 : W0.cell? ⟨w.heap.size + 1, 2, none⟩ = some (.slice ab' nb' cb') := by rw [hW]; go_simp
  clear hW
  have HR := Lib.hid (HR.out.keep hb0)
  have HS := Lib.hid (HS.out.keep hb0)
  go_upto_region 3 with (go_at_call 10; (with_reducible refine (c_known _).mono ?_); rintro e w1 ⟨rfl, h1⟩; have rc0 := keep h1 rc0; have rc1 := keep h1 rc1; have rc2 := keep h1 rc2; have sc0 := keep h1 sc0; have sc1 := keep h1 sc1; have sc2 := keep h1 sc2)
  have HB := Lib.hid (ext_trans hb0 h1)
  have HR := Lib.hid (HR.out.keep h1)
  have HS := Lib.hid (HS.out.keep h1)
  clear h1 hb0
  go_upto_region 4 with (first | (go_at_call 12; (with_reducible refine (c_own2 r _ _ _ _ _ _ w1 HR.out).mono ?_); rintro e w6 ⟨a6, n6, p6, b6, m6, q6, rfl, R6, h6⟩) | (go_at_call 29; (with_reducible refine (c_Minimal r _ _ _ _ _ _ w6 R6).mono ?_); rintro e w7 ⟨ahm, nhm, chm, abm, nbm, cbm, rfl, R7, h7⟩; have g7 := ext_trans h6 h7))
  refine wp_gen (fun w2 hW => ?_)
  obtain ⟨m, hm⟩ : ∃ x, (minimal r).2.getD noRule = x := ⟨_, rfl⟩
  rw [hm] at R7 hW
  have V7 : VarR w2 w7.heap.size m ahm nhm chm abm nbm cbm := by rw [hW]; exact VarR.new w7 m ahm nhm chm abm nbm cbm _
  have e7 : Ext w1 w2 := by rw [hW]; exact ext_alloc g7 _
  have HM : Hid (RuleV w2 m ahm nhm chm abm nbm cbm) := by rw [hW]; exact R7.keep (ext_alloc (Below.refl _ _) _)
  obtain ⟨bm, hbm⟩ : ∃ b, b = w7.heap.size := ⟨_, rfl⟩
  rw [hm, ← hbm]
  rw [← hbm] at V7
  have mc0 := V7.c0
  have mc1 := V7.c1
  have mc2 := V7.c2
  clear hW V7 R7 hbm g7 h6 h7 R6
  have rc0 := keep e7 rc0
  have rc1 := keep e7 rc1
  have rc2 := keep e7 rc2
  have HR := Lib.hid (HR.out.keep e7)
  have sc0 := keep e7 sc0
  have sc1 := keep e7 sc1
  have sc2 := keep e7 sc2
  have HS := Lib.hid (HS.out.keep e7)
  have HB := Lib.hid (ext_trans HB.out e7)
  clear e7
  cases hmm : (minimal r).2 with
  | none =>
    have hE := minimal_none hmm
    rw [hmm] at hm
    obtain rfl : noRule = m := hm
    obtain rfl : 0 = nbm := HM.out.body.2.1
    obtain ⟨E, hEE⟩ : ∃ b, (minimal r).1 = b := ⟨_, rfl⟩
    rw [hEE] at hE ⊢
    have hE' : (E != 0) = true := by simpa using hE
    go_wp2_with (go_at_call 13; (with_reducible refine (c_num _ _).mono ?_); rintro e wn ⟨rfl, hwn⟩; obtain rfl := hwn.symm)
    go_returns
    exact ⟨rfl, HB.out⟩
  | some m' =>
    have hE := (minimal_some hmm).1
    rw [hmm] at hm
    obtain rfl : m = m' := hm.symm
    rw [hE]
    have HMM := Lib.hid hmm
    clear hmm hE
    go_upto_region 6 with (go_at_call 13; (with_reducible refine (c_num _ _).mono ?_); rintro e wn ⟨rfl, hwn⟩; obtain rfl := hwn.symm)
    have hd : Ext w2 w2.drew := ext_drew (Below.refl _ _)
    go_cut [7, 8] (fun v7 v8 wc => v7 = .bool (sameC r m).1 ∧ v8 = .int .i64 (sameC r m).2 ∧ Ext w2 wc)
    case first =>
      go_region_held3 (fun w' => w'.cell? ⟨w.heap.size, 0, none⟩ = some (.string r.head.pred) ∧ w'.cell? ⟨w.heap.size, 1, none⟩ = some (.slice ah nh ch) ∧ w'.cell? ⟨w.heap.size, 2, none⟩ = some (.slice ab nb cb) ∧ w'.cell? ⟨w.heap.size + 1, 0, none⟩ = some (.string s.head.pred) ∧ w'.cell? ⟨w.heap.size + 1, 1, none⟩ = some (.slice ah' nh' ch') ∧ w'.cell? ⟨w.heap.size + 1, 2, none⟩ = some (.slice ab' nb' cb') ∧ w'.cell? ⟨bm, 0, none⟩ = some (.string m.head.pred) ∧ w'.cell? ⟨bm, 1, none⟩ = some (.slice ahm nhm chm) ∧ w'.cell? ⟨bm, 2, none⟩ = some (.slice abm nbm cbm))
        (first | go_keep | exact ⟨keep g6 rc0, keep g6 rc1, keep g6 rc2, keep g6 sc0, keep g6 sc1, keep g6 sc2, keep g6 mc0, keep g6 mc1, keep g6 mc2⟩ | exact ⟨keep g7 rc0, keep g7 rc1, keep g7 rc2, keep g7 sc0, keep g7 sc1, keep g7 sc2, keep g7 mc0, keep g7 mc1, keep g7 mc2⟩ | exact ⟨keep g8 rc0, keep g8 rc1, keep g8 rc2, keep g8 sc0, keep g8 sc1, keep g8 sc2, keep g8 mc0, keep g8 mc1, keep g8 mc2⟩ | fail)
        (first | (go_at_call 12; (with_reducible refine (c_own2 r _ _ _ _ _ _ w2.drew (HR.out.keep hd)).mono ?_); rintro e w6 ⟨a6, n6, p6, b6, m6, q6, rfl, R6, h6⟩; have g6 := ext_trans hd h6) | (go_at_call 12; (with_reducible refine (c_own2 m _ _ _ _ _ _ w6 (HM.out.keep g6)).mono ?_); rintro e w7 ⟨a7, n7, p7, b7, m7, q7, rfl, R7, h7⟩; have g7 := ext_trans g6 h7) | (go_at_call 22; (with_reducible refine (c_SameC r m _ _ _ _ _ _ _ _ _ _ _ _ w7 (R6.keep h7) R7).mono ?_); rintro e w8 ⟨rfl, h8⟩; have g8 := ext_trans g7 h8) | fail)
      all_goals
        go_wp2
        go_meet
        exact ⟨rfl, rfl, g8⟩
    case rest =>
      obtain ⟨rfl, rfl, h4⟩ := hcut
      have rc0 := keep h4 rc0
      have rc1 := keep h4 rc1
      have rc2 := keep h4 rc2
      have HR := Lib.hid (HR.out.keep h4)
      have sc0 := keep h4 sc0
      have sc1 := keep h4 sc1
      have sc2 := keep h4 sc2
      have HS := Lib.hid (HS.out.keep h4)
      have mc0 := keep h4 mc0
      have mc1 := keep h4 mc1
      have mc2 := keep h4 mc2
      have HM := Lib.hid (HM.out.keep h4)
      have HB := Lib.hid (ext_trans HB.out h4)
      obtain ⟨w3, rfl⟩ : ∃ x, x = wc := ⟨_, rfl⟩
      clear h4 hd
      have ca := core_a HMM.out
      have hle : nbm ≤ nb := by have h := (minimal_law HMM.out).2.1.len; rw [HM.out.body.2.1, HR.out.body.2.1] at h; exact h
      have hle' : decide ((nb : Int) < (nbm : Int)) = false := by simp; omega
      obtain ⟨B1, hB1⟩ : ∃ b, (sameC r m).1 = b := ⟨_, rfl⟩
      obtain ⟨E1, hE1⟩ : ∃ b, (sameC r m).2 = b := ⟨_, rfl⟩
      rw [hB1, hE1] at ca
      rw [hB1, hE1]
      clear hB1 hE1
      go_upto_region 7 with (fail)
      go_cut [63] (fun v wc => v = .bool false ∧ w3 = wc)
      case first =>
        rcases ca with ⟨rfl, rfl⟩ | rfl
        · go_wp2_with (go_at_call 13; (with_reducible refine (c_num _ _).mono ?_); rintro e wn ⟨rfl, hwn⟩; obtain rfl := hwn.symm)
          go_meet
          exact ⟨by simp; try omega, rfl⟩
        · go_wp2_with (go_at_call 13; (with_reducible refine (c_num _ _).mono ?_); rintro e wn ⟨rfl, hwn⟩; obtain rfl := hwn.symm)
          go_meet
          exact ⟨by simp; try omega, rfl⟩
      case rest =>
        obtain ⟨rfl, rfl⟩ := hcut
        clear ca hle'
        go_upto_region 10 with (first | (go_at_call 12; (with_reducible refine (c_own2 m _ _ _ _ _ _ w3 HM.out).mono ?_); rintro e w6 ⟨a6, n6, p6, b6, m6, q6, rfl, R6, h6⟩) | (go_at_call 29; (with_reducible refine (c_Minimal m _ _ _ _ _ _ w6 R6).mono ?_); rintro e w7 ⟨ahn, nhn, chn, abn, nbn, cbn, rfl, R7, h7⟩; have g7 := ext_trans h6 h7))
        refine wp_gen (fun w4 hW => ?_)
        obtain ⟨n, hn⟩ : ∃ x, (minimal m).2.getD noRule = x := ⟨_, rfl⟩
        rw [hn] at R7 hW
        have V7 : VarR w4 w7.heap.size n ahn nhn chn abn nbn cbn := by rw [hW]; exact VarR.new w7 n ahn nhn chn abn nbn cbn _
        have e7 : Ext w3 w4 := by rw [hW]; exact ext_alloc g7 _
        have HN : Hid (RuleV w4 n ahn nhn chn abn nbn cbn) := by rw [hW]; exact R7.keep (ext_alloc (Below.refl _ _) _)
        obtain ⟨bn, hbn⟩ : ∃ b, b = w7.heap.size := ⟨_, rfl⟩
        rw [hn, ← hbn]
        rw [← hbn] at V7
        have nc0 := V7.c0
        have nc1 := V7.c1
        have nc2 := V7.c2
        clear hW V7 R7 hbn g7 h6 h7 R6
        have rc0 := keep e7 rc0
        have rc1 := keep e7 rc1
        have rc2 := keep e7 rc2
        have HR := Lib.hid (HR.out.keep e7)
        have sc0 := keep e7 sc0
        have sc1 := keep e7 sc1
        have sc2 := keep e7 sc2
        have HS := Lib.hid (HS.out.keep e7)
        have mc0 := keep e7 mc0
        have mc1 := keep e7 mc1
        have mc2 := keep e7 mc2
        have HM := Lib.hid (HM.out.keep e7)
        have HB := Lib.hid (ext_trans HB.out e7)
        clear e7
        obtain ⟨E2, hE2⟩ : ∃ b, (minimal m).1 = b := ⟨_, rfl⟩
        rw [hE2]
        go_cut [78] (fun v wc => v = .bool false ∧ Ext w4 wc)
        case first =>
          cases hnn : (minimal m).2 with
          | none =>
            have hE := minimal_none hnn
            rw [hE2] at hE
            have hE' : (E2 == 0) = false := by simpa using hE
            clear hE hE2
            go_wp2_with (go_at_call 13; (with_reducible refine (c_num _ _).mono ?_); rintro e wn ⟨rfl, hwn⟩; obtain rfl := hwn.symm)
            go_meet
            exact ⟨rfl, Below.refl _ _⟩
          | some n' =>
            have hE := (minimal_some hnn).1
            have hb := core_b HMM.out hE
            have hdt : decide (n = m) = true := by rw [← hn, hb]; simp
            have hE' : (E2 == 0) = true := by rw [← hE2, hE]; rfl
            have HDT := Lib.hid hdt
            clear hnn hb hn hE hE2 hdt
            go_wp2_with (first | (go_at_call 13; (with_reducible refine (c_num _ _).mono ?_); rintro e wn ⟨rfl, hwn⟩; obtain rfl := hwn.symm) | (go_at_call 31; go_loud ((with_reducible refine (c_SameR n m _ _ _ _ _ _ _ _ _ _ _ _ w4 HN.out HM.out).mono ?_); rw [HDT.out]; rintro e w8 ⟨rfl, h8⟩)))
            go_meet
            exact ⟨rfl, h8⟩
        case rest =>
          obtain ⟨rfl, h4⟩ := hcut
          have rc0 := keep h4 rc0
          have rc1 := keep h4 rc1
          have rc2 := keep h4 rc2
          have HR := Lib.hid (HR.out.keep h4)
          have sc0 := keep h4 sc0
          have sc1 := keep h4 sc1
          have sc2 := keep h4 sc2
          have HS := Lib.hid (HS.out.keep h4)
          have mc0 := keep h4 mc0
          have mc1 := keep h4 mc1
          have mc2 := keep h4 mc2
          have HM := Lib.hid (HM.out.keep h4)
          have nc0 := keep h4 nc0
          have nc1 := keep h4 nc1
          have nc2 := keep h4 nc2
          have HN := Lib.hid (HN.out.keep h4)
          have HB := Lib.hid (ext_trans HB.out h4)
          obtain ⟨w5, rfl⟩ : ∃ x, x = wc := ⟨_, rfl⟩
          clear h4 hn hE2
          go_upto_region 13 with (first | (go_at_call 12; (with_reducible refine (c_own2 s _ _ _ _ _ _ w5 HS.out).mono ?_); rintro e w6 ⟨a6, n6, p6, b6, m6, q6, rfl, R6, h6⟩) | (go_at_call 29; (with_reducible refine (c_Minimal s _ _ _ _ _ _ w6 R6).mono ?_); rintro e w7 ⟨aho, nho, cho, abo, nbo, cbo, rfl, R7, h7⟩; have g7 := ext_trans h6 h7))
          refine wp_gen (fun w6 hW => ?_)
          obtain ⟨o, ho⟩ : ∃ x, (minimal s).2.getD noRule = x := ⟨_, rfl⟩
          rw [ho] at R7 hW
          have V7 : VarR w6 w7.heap.size o aho nho cho abo nbo cbo := by rw [hW]; exact VarR.new w7 o aho nho cho abo nbo cbo _
          have e7 : Ext w5 w6 := by rw [hW]; exact ext_alloc g7 _
          have HO : Hid (RuleV w6 o aho nho cho abo nbo cbo) := by rw [hW]; exact R7.keep (ext_alloc (Below.refl _ _) _)
          obtain ⟨bo, hbo⟩ : ∃ b, b = w7.heap.size := ⟨_, rfl⟩
          rw [ho, ← hbo]
          rw [← hbo] at V7
          have oc0 := V7.c0
          have oc1 := V7.c1
          have oc2 := V7.c2
          clear hW V7 R7 hbo g7 h6 h7 R6
          have rc0 := keep e7 rc0
          have rc1 := keep e7 rc1
          have rc2 := keep e7 rc2
          have HR := Lib.hid (HR.out.keep e7)
          have sc0 := keep e7 sc0
          have sc1 := keep e7 sc1
          have sc2 := keep e7 sc2
          have HS := Lib.hid (HS.out.keep e7)
          have mc0 := keep e7 mc0
          have mc1 := keep e7 mc1
          have mc2 := keep e7 mc2
          have HM := Lib.hid (HM.out.keep e7)
          have nc0 := keep e7 nc0
          have nc1 := keep e7 nc1
          have nc2 := keep e7 nc2
          have HN := Lib.hid (HN.out.keep e7)
          have HB := Lib.hid (ext_trans HB.out e7)
          clear e7
          have hd : Ext w6 w6.drew := ext_drew (Below.refl _ _)
          go_cut [13, 14] (fun v13 v14 wc => v13 = .bool (sameC r s).1 ∧ v14 = .int .i64 (sameC r s).2 ∧ Ext w6 wc)
          case first =>
            go_region_held3 (fun w' => w'.cell? ⟨w.heap.size, 0, none⟩ = some (.string r.head.pred) ∧ w'.cell? ⟨w.heap.size, 1, none⟩ = some (.slice ah nh ch) ∧ w'.cell? ⟨w.heap.size, 2, none⟩ = some (.slice ab nb cb) ∧ w'.cell? ⟨w.heap.size + 1, 0, none⟩ = some (.string s.head.pred) ∧ w'.cell? ⟨w.heap.size + 1, 1, none⟩ = some (.slice ah' nh' ch') ∧ w'.cell? ⟨w.heap.size + 1, 2, none⟩ = some (.slice ab' nb' cb') ∧ w'.cell? ⟨bm, 0, none⟩ = some (.string m.head.pred) ∧ w'.cell? ⟨bm, 1, none⟩ = some (.slice ahm nhm chm) ∧ w'.cell? ⟨bm, 2, none⟩ = some (.slice abm nbm cbm) ∧ w'.cell? ⟨bn, 0, none⟩ = some (.string n.head.pred) ∧ w'.cell? ⟨bn, 1, none⟩ = some (.slice ahn nhn chn) ∧ w'.cell? ⟨bn, 2, none⟩ = some (.slice abn nbn cbn) ∧ w'.cell? ⟨bo, 0, none⟩ = some (.string o.head.pred) ∧ w'.cell? ⟨bo, 1, none⟩ = some (.slice aho nho cho) ∧ w'.cell? ⟨bo, 2, none⟩ = some (.slice abo nbo cbo))
              (first | go_keep | exact ⟨keep g6 rc0, keep g6 rc1, keep g6 rc2, keep g6 sc0, keep g6 sc1, keep g6 sc2, keep g6 mc0, keep g6 mc1, keep g6 mc2, keep g6 nc0, keep g6 nc1, keep g6 nc2, keep g6 oc0, keep g6 oc1, keep g6 oc2⟩ | exact ⟨keep g7 rc0, keep g7 rc1, keep g7 rc2, keep g7 sc0, keep g7 sc1, keep g7 sc2, keep g7 mc0, keep g7 mc1, keep g7 mc2, keep g7 nc0, keep g7 nc1, keep g7 nc2, keep g7 oc0, keep g7 oc1, keep g7 oc2⟩ | exact ⟨keep g8 rc0, keep g8 rc1, keep g8 rc2, keep g8 sc0, keep g8 sc1, keep g8 sc2, keep g8 mc0, keep g8 mc1, keep g8 mc2, keep g8 nc0, keep g8 nc1, keep g8 nc2, keep g8 oc0, keep g8 oc1, keep g8 oc2⟩ | fail)
              (first | (go_at_call 12; (with_reducible refine (c_own2 r _ _ _ _ _ _ w6.drew (HR.out.keep hd)).mono ?_); rintro e w6 ⟨a6, n6, p6, b6, m6, q6, rfl, R6, h6⟩; have g6 := ext_trans hd h6) | (go_at_call 12; (with_reducible refine (c_own2 s _ _ _ _ _ _ w6 (HS.out.keep g6)).mono ?_); rintro e w7 ⟨a7, n7, p7, b7, m7, q7, rfl, R7, h7⟩; have g7 := ext_trans g6 h7) | (go_at_call 22; (with_reducible refine (c_SameC r s _ _ _ _ _ _ _ _ _ _ _ _ w7 (R6.keep h7) R7).mono ?_); rintro e w8 ⟨rfl, h8⟩; have g8 := ext_trans g7 h8) | fail)
            all_goals
              go_wp2
              go_meet
              exact ⟨rfl, rfl, g8⟩
          case rest =>
            obtain ⟨rfl, rfl, h4⟩ := hcut
            have rc0 := keep h4 rc0
            have rc1 := keep h4 rc1
            have rc2 := keep h4 rc2
            have HR := Lib.hid (HR.out.keep h4)
            have sc0 := keep h4 sc0
            have sc1 := keep h4 sc1
            have sc2 := keep h4 sc2
            have HS := Lib.hid (HS.out.keep h4)
            have mc0 := keep h4 mc0
            have mc1 := keep h4 mc1
            have mc2 := keep h4 mc2
            have HM := Lib.hid (HM.out.keep h4)
            have nc0 := keep h4 nc0
            have nc1 := keep h4 nc1
            have nc2 := keep h4 nc2
            have HN := Lib.hid (HN.out.keep h4)
            have oc0 := keep h4 oc0
            have oc1 := keep h4 oc1
            have oc2 := keep h4 oc2
            have HO := Lib.hid (HO.out.keep h4)
            have HB := Lib.hid (ext_trans HB.out h4)
            clear h4 hd
            obtain ⟨B3, hB3⟩ : ∃ b, (sameC r s).1 = b := ⟨_, rfl⟩
            obtain ⟨E3, hE3⟩ : ∃ b, (sameC r s).2 = b := ⟨_, rfl⟩
            rw [hB3, hE3]
            clear hE3
            cases hoo : (minimal s).2 with
            | none =>
              have hE := minimal_none hoo
              obtain ⟨E, hEE⟩ : ∃ b, (minimal s).1 = b := ⟨_, rfl⟩
              rw [hEE] at hE ⊢
              have hE' : (E != 0) = true := by simpa using hE
              go_wp2_with (go_at_call 13; (with_reducible refine (c_num _ _).mono ?_); rintro e wn ⟨rfl, hwn⟩; obtain rfl := hwn.symm)
              go_returns
              exact ⟨rfl, HB.out⟩
            | some o' =>
              have hE := (minimal_some hoo).1
              rw [hE]
              obtain rfl : o = o' := by rw [hoo] at ho; exact ho.symm
              by_cases h3 : E3 = 0
              · subst h3
                cases B3 with
                | false =>
                  go_wp2_with (go_at_call 13; (with_reducible refine (c_num _ _).mono ?_); rintro e wn ⟨rfl, hwn⟩; obtain rfl := hwn.symm)
                  go_returns
                  exact ⟨rfl, HB.out⟩
                | true =>
                  have hlen := core_c HMM.out hoo hB3
                  rw [HO.out.body.2.1, HM.out.body.2.1] at hlen
                  subst hlen
                  go_wp2_with (go_at_call 13; (with_reducible refine (c_num _ _).mono ?_); rintro e wn ⟨rfl, hwn⟩; obtain rfl := hwn.symm)
                  go_returns
                  exact ⟨ret_bool (by simp), HB.out⟩
              · have h3' : (E3 != 0) = true := by simpa using h3
                go_wp2_with (go_at_call 13; (with_reducible refine (c_num _ _).mono ?_); rintro e wn ⟨rfl, hwn⟩; obtain rfl := hwn.symm)
                go_returns
                exact ⟨rfl, HB.out⟩
end Go.Proofs.Ytcphjfggjjonpaa
