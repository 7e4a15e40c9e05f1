/- The walk of the law ContainOrder. -/
import Derived.Test.YtcphjfggjjonpaaTurn
namespace Go.Proofs.Ytcphjfggjjonpaa
open Go.ChangeShapes Go.WideShapes Go.ChangeAt Go.RowKit
theorem c_own2 (r : Rule) (ah : Option Addr) (nh ch : Nat) (ab : Option Addr) (nb cb : Nat) (w : World) (hr : RuleV w r ah nh ch ab nb cb) :
    Calls Try.prog 12 #[.agg #[.string r.head.pred, .slice ah nh ch, .slice ab nb cb]] w fun e w' => ∃ ah' nh' ch' ab' nb' cb', e = .returned (.agg #[.string r.head.pred, .slice ah' nh' ch', .slice ab' nb' cb']) ∧ RuleV w' r ah' nh' ch' ab' nb' cb' ∧ Ext w w' := by
  refine (c_own r ah nh ch ab nb cb w hr).mono fun e w' h => ?_
  obtain ⟨gh, c1, gb, c2, rfl, ho, hb⟩ := h
  exact ⟨_, _, _, _, _, _, rfl, ho.rule hr, hb⟩
set_option maxRecDepth 100000 in
set_option maxHeartbeats 4000000 in
theorem c_order (r s t : Rule) (xs : List Int) (ah : Option Addr) (nh ch : Nat) (ab : Option Addr) (nb cb : Nat) (ah' : Option Addr) (nh' ch' : Nat) (ab' : Option Addr) (nb' cb' : Nat) (ah2 : Option Addr) (nh2 ch2 : Nat) (ab2 : Option Addr) (nb2 cb2 : Nat) (at_ : Option Addr) (nt ct : Nat) (w : World) (hr : RuleV w r ah nh ch ab nb cb) (hs : RuleV w s ah' nh' ch' ab' nb' cb') (ht : RuleV w t ah2 nh2 ch2 ab2 nb2 cb2) (hx : IntsAt w at_ nt xs) :
    Calls Try.prog 4 #[.agg #[.string r.head.pred, .slice ah nh ch, .slice ab nb cb], .agg #[.string s.head.pred, .slice ah' nh' ch', .slice ab' nb' cb'], .agg #[.string t.head.pred, .slice ah2 nh2 ch2, .slice ab2 nb2 cb2], .slice at_ nt ct] w fun e w' => e = .returned (.bool true) ∧ Ext w w' := by
  have HR := Lib.hid hr
  have HS := Lib.hid hs
  have HT := Lib.hid ht
  have HX := Lib.hid hx
  clear hr hs ht hx
  go_enter Try.func4, Try.ntmps4
  go_upto_region 1 with (fail)
  refine wp_gen (fun W0 hW => ?_)
  have hb0 : Ext w W0 := by rw [hW]; go_grown
  have rc0 : W0.cell? ⟨w.heap.size, 0, none⟩ = some (.string r.head.pred) := by rw [hW]; go_simp
  have rc1 : W0.cell? ⟨w.heap.size, 1, none⟩ = some (.slice ah nh ch) := by rw [hW]; go_simp
  have rc2 : W0.cell? ⟨w.heap.size, 2, none⟩ = some (.slice ab nb cb) := by rw [hW]; go_simp
  have sc0 : W0.cell? ⟨w.heap.size + 1, 0, none⟩ = some (.string s.head.pred) := by rw [hW]; go_simp
  have sc1 : W0.cell? ⟨w.heap.size + 1, 1, none⟩ = some (.slice ah' nh' ch') := by rw [hW]; go_simp
  have sc2 : W0.cell? ⟨w.heap.size + 1, 2, none⟩ = some (.slice ab' nb' cb') := by rw [hW]; go_simp
  have tc0 : W0.cell? ⟨w.heap.size + 2, 0, none⟩ = some (.string t.head.pred) := by rw [hW]; go_simp
  have tc1 : W0.cell? ⟨w.heap.size + 2, 1, none⟩ = some (.slice ah2 nh2 ch2) := by rw [hW]; go_simp
  have tc2 : W0.cell? ⟨w.heap.size + 2, 2, none⟩ = some (.slice ab2 nb2 cb2) := by rw [hW]; go_simp
  clear hW
  go_upto_region 3 with (go_at_call 10; (with_reducible refine (c_known _).mono ?_); rintro e w1 ⟨rfl, h1⟩; have rc0 := keep h1 rc0; have rc1 := keep h1 rc1; have rc2 := keep h1 rc2; have sc0 := keep h1 sc0; have sc1 := keep h1 sc1; have sc2 := keep h1 sc2; have tc0 := keep h1 tc0; have tc1 := keep h1 tc1; have tc2 := keep h1 tc2)
  have hb1 := ext_trans hb0 h1
  obtain ⟨bp, hbp⟩ : ∃ b, plain r = b := ⟨_, rfl⟩
  have PL := Lib.hid hbp
  go_upto_if 23 with (first | (go_at_call 12; (with_reducible refine (c_own2 r _ _ _ _ _ _ _ (HR.out.keep hb1)).mono ?_); rintro e w2 ⟨a2, n2, p2, b2, m2, q2, rfl, R2, h2⟩) | (go_at_call 15; (with_reducible refine (c_Plain r _ _ _ _ _ _ _ R2).mono ?_); rintro e w3 ⟨rfl, h3⟩; have g3 := ext_trans h2 h3; have rc0 := keep g3 rc0; have rc1 := keep g3 rc1; have rc2 := keep g3 rc2; have sc0 := keep g3 sc0; have sc1 := keep g3 sc1; have sc2 := keep g3 sc2; have tc0 := keep g3 tc0; have tc1 := keep g3 tc1; have tc2 := keep g3 tc2))
  have HB := Lib.hid (ext_trans hb1 g3)
  clear hb0 h1 hb1 h2 h3 g3 R2 hbp
  go_cut [9] (fun v9 wc => Ext w3 wc)
  case first =>
    cases bp with
    | false =>
      go_wp2
      go_meet
      exact Below.refl _ _
    | true =>
      go_upto_region 4 with (fail)
      have hd : Ext w3 w3.drew := ext_drew (Below.refl _ _)
      go_cut [9, 10] (fun v9 v10 wc => v9 = .bool (laid r r).2.isSome ∧ v10 = .int .i64 (laid r r).1 ∧ Ext w3 wc)
      case first =>
        go_region_held3 (fun w' => w'.cell? ⟨w.heap.size, 0, none⟩ = some (.string r.head.pred) ∧ w'.cell? ⟨w.heap.size, 1, none⟩ = some (.slice ah nh ch) ∧ w'.cell? ⟨w.heap.size, 2, none⟩ = some (.slice ab nb cb) ∧ w'.cell? ⟨w.heap.size + 1, 0, none⟩ = some (.string s.head.pred) ∧ w'.cell? ⟨w.heap.size + 1, 1, none⟩ = some (.slice ah' nh' ch') ∧ w'.cell? ⟨w.heap.size + 1, 2, none⟩ = some (.slice ab' nb' cb') ∧ w'.cell? ⟨w.heap.size + 2, 0, none⟩ = some (.string t.head.pred) ∧ w'.cell? ⟨w.heap.size + 2, 1, none⟩ = some (.slice ah2 nh2 ch2) ∧ w'.cell? ⟨w.heap.size + 2, 2, none⟩ = some (.slice ab2 nb2 cb2))
          (first | go_keep | exact ⟨keep g6 rc0, keep g6 rc1, keep g6 rc2, keep g6 sc0, keep g6 sc1, keep g6 sc2, keep g6 tc0, keep g6 tc1, keep g6 tc2⟩ | exact ⟨keep g7 rc0, keep g7 rc1, keep g7 rc2, keep g7 sc0, keep g7 sc1, keep g7 sc2, keep g7 tc0, keep g7 tc1, keep g7 tc2⟩ | exact ⟨keep g8 rc0, keep g8 rc1, keep g8 rc2, keep g8 sc0, keep g8 sc1, keep g8 sc2, keep g8 tc0, keep g8 tc1, keep g8 tc2⟩)
          (first | (go_at_call 12; (with_reducible refine (c_own2 r _ _ _ _ _ _ w3.drew (HR.out.keep (ext_trans HB.out hd))).mono ?_); rintro e w6 ⟨a6, n6, p6, b6, m6, q6, rfl, R6, h6⟩; have g6 := ext_trans hd h6) | (go_at_call 12; (with_reducible refine (c_own2 r _ _ _ _ _ _ w6 (HR.out.keep (ext_trans HB.out g6))).mono ?_); rintro e w7 ⟨a7, n7, p7, b7, m7, q7, rfl, R7, h7⟩; have g7 := ext_trans g6 h7) | (go_at_call 16; (with_reducible refine (c_Within r r _ _ _ _ _ _ _ _ _ _ _ _ w7 (R6.keep h7) R7).mono ?_); rintro e w8 ⟨rfl, h8⟩; have g8 := ext_trans g7 h8))
        all_goals
          go_wp2
          go_meet
          exact ⟨rfl, rfl, g8⟩
      case rest =>
        obtain ⟨rfl, rfl, h4⟩ := hcut
        obtain ⟨B, hB⟩ : ∃ b, (laid r r).2.isSome = b := ⟨_, rfl⟩
        rw [hB]
        cases B with
        | true =>
          go_wp2
          go_meet
          exact h4
        | false =>
          rw [order_a PL.out hB]
          go_wp2_with (go_at_call 13; (with_reducible refine (c_num _ _).mono ?_); rintro e wn ⟨rfl, rfl⟩)
          go_meet
          exact h4
  case rest =>
    have HB := Lib.hid (ext_trans HB.out hcut)
    have rc0 := keep hcut rc0
    have rc1 := keep hcut rc1
    have rc2 := keep hcut rc2
    have sc0 := keep hcut sc0
    have sc1 := keep hcut sc1
    have sc2 := keep hcut sc2
    have tc0 := keep hcut tc0
    have tc1 := keep hcut tc1
    have tc2 := keep hcut tc2
    obtain ⟨w4, rfl⟩ : ∃ x, x = wc := ⟨_, rfl⟩
    clear hcut
    go_upto_region 7 with (fail)
    have hd : Ext w4 w4.drew := ext_drew (Below.refl _ _)
    go_cut [11, 12] (fun v11 v12 wc => v11 = .bool (laid r s).2.isSome ∧ v12 = .int .i64 (laid r s).1 ∧ Ext w4 wc)
    case first =>
      go_region_held3 (fun w' => w'.cell? ⟨w.heap.size, 0, none⟩ = some (.string r.head.pred) ∧ w'.cell? ⟨w.heap.size, 1, none⟩ = some (.slice ah nh ch) ∧ w'.cell? ⟨w.heap.size, 2, none⟩ = some (.slice ab nb cb) ∧ w'.cell? ⟨w.heap.size + 1, 0, none⟩ = some (.string s.head.pred) ∧ w'.cell? ⟨w.heap.size + 1, 1, none⟩ = some (.slice ah' nh' ch') ∧ w'.cell? ⟨w.heap.size + 1, 2, none⟩ = some (.slice ab' nb' cb') ∧ w'.cell? ⟨w.heap.size + 2, 0, none⟩ = some (.string t.head.pred) ∧ w'.cell? ⟨w.heap.size + 2, 1, none⟩ = some (.slice ah2 nh2 ch2) ∧ w'.cell? ⟨w.heap.size + 2, 2, none⟩ = some (.slice ab2 nb2 cb2))
        (first | go_keep | exact ⟨keep g6 rc0, keep g6 rc1, keep g6 rc2, keep g6 sc0, keep g6 sc1, keep g6 sc2, keep g6 tc0, keep g6 tc1, keep g6 tc2⟩ | exact ⟨keep g7 rc0, keep g7 rc1, keep g7 rc2, keep g7 sc0, keep g7 sc1, keep g7 sc2, keep g7 tc0, keep g7 tc1, keep g7 tc2⟩ | exact ⟨keep g8 rc0, keep g8 rc1, keep g8 rc2, keep g8 sc0, keep g8 sc1, keep g8 sc2, keep g8 tc0, keep g8 tc1, keep g8 tc2⟩)
        (first | (go_at_call 12; (with_reducible refine (c_own2 r _ _ _ _ _ _ w4.drew (HR.out.keep (ext_trans HB.out hd))).mono ?_); rintro e w6 ⟨a6, n6, p6, b6, m6, q6, rfl, R6, h6⟩; have g6 := ext_trans hd h6) | (go_at_call 12; (with_reducible refine (c_own2 s _ _ _ _ _ _ w6 (HS.out.keep (ext_trans HB.out g6))).mono ?_); rintro e w7 ⟨a7, n7, p7, b7, m7, q7, rfl, R7, h7⟩; have g7 := ext_trans g6 h7) | (go_at_call 16; (with_reducible refine (c_Within r s _ _ _ _ _ _ _ _ _ _ _ _ w7 (R6.keep h7) R7).mono ?_); rintro e w8 ⟨rfl, h8⟩; have g8 := ext_trans g7 h8))
      all_goals
        go_wp2
        go_meet
        exact ⟨rfl, rfl, g8⟩
    case rest =>
      obtain ⟨rfl, rfl, h4⟩ := hcut
      have HB := Lib.hid (ext_trans HB.out h4)
      have rc0 := keep h4 rc0
      have rc1 := keep h4 rc1
      have rc2 := keep h4 rc2
      have sc0 := keep h4 sc0
      have sc1 := keep h4 sc1
      have sc2 := keep h4 sc2
      have tc0 := keep h4 tc0
      have tc1 := keep h4 tc1
      have tc2 := keep h4 tc2
      obtain ⟨w5, rfl⟩ : ∃ x, x = wc := ⟨_, rfl⟩
      clear h4 hd
      obtain ⟨B1, hhB1⟩ : ∃ b, (laid r s).2.isSome = b := ⟨_, rfl⟩
      obtain ⟨E1, hhE1⟩ : ∃ b, (laid r s).1 = b := ⟨_, rfl⟩
      rw [hhB1, hhE1]
      have B1H := Lib.hid hhB1
      have E1H := Lib.hid hhE1
      clear hhB1 hhE1
      go_upto_region 8 with (fail)
      have hd : Ext w5 w5.drew := ext_drew (Below.refl _ _)
      go_cut [13, 14] (fun v13 v14 wc => v13 = .bool (laid s t).2.isSome ∧ v14 = .int .i64 (laid s t).1 ∧ Ext w5 wc)
      case first =>
        go_region_held3 (fun w' => w'.cell? ⟨w.heap.size, 0, none⟩ = some (.string r.head.pred) ∧ w'.cell? ⟨w.heap.size, 1, none⟩ = some (.slice ah nh ch) ∧ w'.cell? ⟨w.heap.size, 2, none⟩ = some (.slice ab nb cb) ∧ w'.cell? ⟨w.heap.size + 1, 0, none⟩ = some (.string s.head.pred) ∧ w'.cell? ⟨w.heap.size + 1, 1, none⟩ = some (.slice ah' nh' ch') ∧ w'.cell? ⟨w.heap.size + 1, 2, none⟩ = some (.slice ab' nb' cb') ∧ w'.cell? ⟨w.heap.size + 2, 0, none⟩ = some (.string t.head.pred) ∧ w'.cell? ⟨w.heap.size + 2, 1, none⟩ = some (.slice ah2 nh2 ch2) ∧ w'.cell? ⟨w.heap.size + 2, 2, none⟩ = some (.slice ab2 nb2 cb2))
          (first | go_keep | exact ⟨keep g6 rc0, keep g6 rc1, keep g6 rc2, keep g6 sc0, keep g6 sc1, keep g6 sc2, keep g6 tc0, keep g6 tc1, keep g6 tc2⟩ | exact ⟨keep g7 rc0, keep g7 rc1, keep g7 rc2, keep g7 sc0, keep g7 sc1, keep g7 sc2, keep g7 tc0, keep g7 tc1, keep g7 tc2⟩ | exact ⟨keep g8 rc0, keep g8 rc1, keep g8 rc2, keep g8 sc0, keep g8 sc1, keep g8 sc2, keep g8 tc0, keep g8 tc1, keep g8 tc2⟩)
          (first | (go_at_call 12; (with_reducible refine (c_own2 s _ _ _ _ _ _ w5.drew (HS.out.keep (ext_trans HB.out hd))).mono ?_); rintro e w6 ⟨a6, n6, p6, b6, m6, q6, rfl, R6, h6⟩; have g6 := ext_trans hd h6) | (go_at_call 12; (with_reducible refine (c_own2 t _ _ _ _ _ _ w6 (HT.out.keep (ext_trans HB.out g6))).mono ?_); rintro e w7 ⟨a7, n7, p7, b7, m7, q7, rfl, R7, h7⟩; have g7 := ext_trans g6 h7) | (go_at_call 16; (with_reducible refine (c_Within s t _ _ _ _ _ _ _ _ _ _ _ _ w7 (R6.keep h7) R7).mono ?_); rintro e w8 ⟨rfl, h8⟩; have g8 := ext_trans g7 h8))
        all_goals
          go_wp2
          go_meet
          exact ⟨rfl, rfl, g8⟩
      case rest =>
        obtain ⟨rfl, rfl, h4⟩ := hcut
        have HB := Lib.hid (ext_trans HB.out h4)
        have rc0 := keep h4 rc0
        have rc1 := keep h4 rc1
        have rc2 := keep h4 rc2
        have sc0 := keep h4 sc0
        have sc1 := keep h4 sc1
        have sc2 := keep h4 sc2
        have tc0 := keep h4 tc0
        have tc1 := keep h4 tc1
        have tc2 := keep h4 tc2
        obtain ⟨w55, rfl⟩ : ∃ x, x = wc := ⟨_, rfl⟩
        clear h4 hd
        obtain ⟨B2, hhB2⟩ : ∃ b, (laid s t).2.isSome = b := ⟨_, rfl⟩
        obtain ⟨E2, hhE2⟩ : ∃ b, (laid s t).1 = b := ⟨_, rfl⟩
        rw [hhB2, hhE2]
        have B2H := Lib.hid hhB2
        have E2H := Lib.hid hhE2
        clear hhB2 hhE2
        go_upto_region 9 with (fail)
        have hd : Ext w55 w55.drew := ext_drew (Below.refl _ _)
        go_cut [15, 16] (fun v15 v16 wc => v15 = .bool (laid r t).2.isSome ∧ v16 = .int .i64 (laid r t).1 ∧ Ext w55 wc)
        case first =>
          go_region_held3 (fun w' => w'.cell? ⟨w.heap.size, 0, none⟩ = some (.string r.head.pred) ∧ w'.cell? ⟨w.heap.size, 1, none⟩ = some (.slice ah nh ch) ∧ w'.cell? ⟨w.heap.size, 2, none⟩ = some (.slice ab nb cb) ∧ w'.cell? ⟨w.heap.size + 1, 0, none⟩ = some (.string s.head.pred) ∧ w'.cell? ⟨w.heap.size + 1, 1, none⟩ = some (.slice ah' nh' ch') ∧ w'.cell? ⟨w.heap.size + 1, 2, none⟩ = some (.slice ab' nb' cb') ∧ w'.cell? ⟨w.heap.size + 2, 0, none⟩ = some (.string t.head.pred) ∧ w'.cell? ⟨w.heap.size + 2, 1, none⟩ = some (.slice ah2 nh2 ch2) ∧ w'.cell? ⟨w.heap.size + 2, 2, none⟩ = some (.slice ab2 nb2 cb2))
            (first | go_keep | exact ⟨keep g6 rc0, keep g6 rc1, keep g6 rc2, keep g6 sc0, keep g6 sc1, keep g6 sc2, keep g6 tc0, keep g6 tc1, keep g6 tc2⟩ | exact ⟨keep g7 rc0, keep g7 rc1, keep g7 rc2, keep g7 sc0, keep g7 sc1, keep g7 sc2, keep g7 tc0, keep g7 tc1, keep g7 tc2⟩ | exact ⟨keep g8 rc0, keep g8 rc1, keep g8 rc2, keep g8 sc0, keep g8 sc1, keep g8 sc2, keep g8 tc0, keep g8 tc1, keep g8 tc2⟩)
            (first | (go_at_call 12; (with_reducible refine (c_own2 r _ _ _ _ _ _ w55.drew (HR.out.keep (ext_trans HB.out hd))).mono ?_); rintro e w6 ⟨a6, n6, p6, b6, m6, q6, rfl, R6, h6⟩; have g6 := ext_trans hd h6) | (go_at_call 12; (with_reducible refine (c_own2 t _ _ _ _ _ _ w6 (HT.out.keep (ext_trans HB.out g6))).mono ?_); rintro e w7 ⟨a7, n7, p7, b7, m7, q7, rfl, R7, h7⟩; have g7 := ext_trans g6 h7) | (go_at_call 16; (with_reducible refine (c_Within r t _ _ _ _ _ _ _ _ _ _ _ _ w7 (R6.keep h7) R7).mono ?_); rintro e w8 ⟨rfl, h8⟩; have g8 := ext_trans g7 h8))
          all_goals
            go_wp2
            go_meet
            exact ⟨rfl, rfl, g8⟩
        case rest =>
          obtain ⟨rfl, rfl, h4⟩ := hcut
          have HB := Lib.hid (ext_trans HB.out h4)
          have rc0 := keep h4 rc0
          have rc1 := keep h4 rc1
          have rc2 := keep h4 rc2
          have sc0 := keep h4 sc0
          have sc1 := keep h4 sc1
          have sc2 := keep h4 sc2
          have tc0 := keep h4 tc0
          have tc1 := keep h4 tc1
          have tc2 := keep h4 tc2
          obtain ⟨w555, rfl⟩ : ∃ x, x = wc := ⟨_, rfl⟩
          clear h4 hd
          obtain ⟨B3, hhB3⟩ : ∃ b, (laid r t).2.isSome = b := ⟨_, rfl⟩
          obtain ⟨E3, hhE3⟩ : ∃ b, (laid r t).1 = b := ⟨_, rfl⟩
          rw [hhB3, hhE3]
          have B3H := Lib.hid hhB3
          have E3H := Lib.hid hhE3
          clear hhB3 hhE3
          go_upto_region 10 with (fail)
          go_cut [75] (fun v75 wc => v75 = .bool false ∧ w555 = wc)
          case first =>
            cases B1
            · go_wp2_with (go_at_call 13; (with_reducible refine (c_num _ _).mono ?_); rintro e wn ⟨rfl, rfl⟩)
              go_meet
              exact ⟨rfl, rfl⟩
            · cases B2
              · go_wp2_with (go_at_call 13; (with_reducible refine (c_num _ _).mono ?_); rintro e wn ⟨rfl, rfl⟩)
                go_meet
                exact ⟨rfl, rfl⟩
              · cases B3
                · have h241 := order_b B1H.out B2H.out B3H.out
                  rw [E3H.out] at h241
                  subst h241
                  go_wp2_with (go_at_call 13; (with_reducible refine (c_num _ _).mono ?_); rintro e wn ⟨rfl, rfl⟩)
                  go_meet
                  exact ⟨rfl, rfl⟩
                · go_wp2_with (go_at_call 13; (with_reducible refine (c_num _ _).mono ?_); rintro e wn ⟨rfl, rfl⟩)
                  go_meet
                  exact ⟨rfl, rfl⟩
          case rest =>
            obtain ⟨rfl, rfl⟩ := hcut
            go_upto_region 12 with (fail)
            have hd : Ext w555 w555.drew := ext_drew (Below.refl _ _)
            go_cut [17, 18] (fun v17 v18 wc => ∃ r' s' : Rule, Alike r r' ∧ Alike s s' ∧ v17 = .bool (laid r' s').2.isSome ∧ v18 = .int .i64 (laid r' s').1 ∧ Ext w555 wc)
            case first =>
              go_region_held3 (fun w' => w'.cell? ⟨w.heap.size, 0, none⟩ = some (.string r.head.pred) ∧ w'.cell? ⟨w.heap.size, 1, none⟩ = some (.slice ah nh ch) ∧ w'.cell? ⟨w.heap.size, 2, none⟩ = some (.slice ab nb cb) ∧ w'.cell? ⟨w.heap.size + 1, 0, none⟩ = some (.string s.head.pred) ∧ w'.cell? ⟨w.heap.size + 1, 1, none⟩ = some (.slice ah' nh' ch') ∧ w'.cell? ⟨w.heap.size + 1, 2, none⟩ = some (.slice ab' nb' cb') ∧ w'.cell? ⟨w.heap.size + 2, 0, none⟩ = some (.string t.head.pred) ∧ w'.cell? ⟨w.heap.size + 2, 1, none⟩ = some (.slice ah2 nh2 ch2) ∧ w'.cell? ⟨w.heap.size + 2, 2, none⟩ = some (.slice ab2 nb2 cb2))
                (first | go_keep | exact ⟨keep g6 rc0, keep g6 rc1, keep g6 rc2, keep g6 sc0, keep g6 sc1, keep g6 sc2, keep g6 tc0, keep g6 tc1, keep g6 tc2⟩ | exact ⟨keep g7 rc0, keep g7 rc1, keep g7 rc2, keep g7 sc0, keep g7 sc1, keep g7 sc2, keep g7 tc0, keep g7 tc1, keep g7 tc2⟩ | exact ⟨keep g8 rc0, keep g8 rc1, keep g8 rc2, keep g8 sc0, keep g8 sc1, keep g8 sc2, keep g8 tc0, keep g8 tc1, keep g8 tc2⟩)
                (first | (go_at_call 17; (with_reducible refine (c_turned r _ _ _ _ _ _ _ _ _ xs w555.drew (HR.out.keep (ext_trans HB.out hd)) (HX.out.keep (ext_trans HB.out hd))).mono ?_); rintro e w6 ⟨r6, a6, n6, p6, b6, m6, q6, rfl, A6, R6, h6⟩; have g6 := ext_trans hd h6) | (go_at_call 17; (with_reducible refine (c_turned s _ _ _ _ _ _ _ _ _ xs w6 (HS.out.keep (ext_trans HB.out g6)) (HX.out.keep (ext_trans HB.out g6))).mono ?_); rintro e w7 ⟨r7, a7, n7, p7, b7, m7, q7, rfl, A7, R7, h7⟩; have g7 := ext_trans g6 h7) | (go_at_call 16; (with_reducible refine (c_Within r6 r7 _ _ _ _ _ _ _ _ _ _ _ _ w7 (R6.keep h7) R7).mono ?_); rintro e w8 ⟨rfl, h8⟩; have g8 := ext_trans g7 h8))
              all_goals
                go_wp2
                go_meet
                exact ⟨r6, r7, A6, A7, rfl, rfl, g8⟩
            case rest =>
              obtain ⟨r', s', A1, A2, rfl, rfl, h4⟩ := hcut
              have HB := Lib.hid (ext_trans HB.out h4)
              have rc0 := keep h4 rc0
              have rc1 := keep h4 rc1
              have rc2 := keep h4 rc2
              have sc0 := keep h4 sc0
              have sc1 := keep h4 sc1
              have sc2 := keep h4 sc2
              have tc0 := keep h4 tc0
              have tc1 := keep h4 tc1
              have tc2 := keep h4 tc2
              obtain ⟨w6, rfl⟩ : ∃ x, x = wc := ⟨_, rfl⟩
              clear h4 hd
              obtain ⟨B4, hhB4⟩ : ∃ b, (laid r' s').2.isSome = b := ⟨_, rfl⟩
              obtain ⟨E4, hhE4⟩ : ∃ b, (laid r' s').1 = b := ⟨_, rfl⟩
              rw [hhB4, hhE4]
              have hc4 : Hid (E1 = 0 → E4 = 0 → B4 = B1) := fun h1 h2 => by rw [← hhB4, ← B1H.out]; exact order_c A1 A2 (E1H.out.trans h1) (hhE4.trans h2)
              clear hhB4 hhE4
              go_upto_region 13 with (fail)
              go_cut [98] (fun v98 wc => v98 = .bool false ∧ w6 = wc)
              case first =>
                by_cases h1 : E1 = 0
                · by_cases h2 : E4 = 0
                  · have h3 := hc4.out h1 h2
                    subst h1 h2 h3
                    go_wp2_with (go_at_call 13; (with_reducible refine (c_num _ _).mono ?_); rintro e wn ⟨rfl, rfl⟩)
                    go_meet
                    exact ⟨by simp, rfl⟩
                  · subst h1
                    have h2' : (E4 == 0) = false := by simp [h2]
                    go_wp2_with (go_at_call 13; (with_reducible refine (c_num _ _).mono ?_); rintro e wn ⟨rfl, rfl⟩)
                    go_meet
                    exact ⟨rfl, rfl⟩
                · have h1' : (E1 == 0) = false := by simp [h1]
                  go_wp2_with (go_at_call 13; (with_reducible refine (c_num _ _).mono ?_); rintro e wn ⟨rfl, rfl⟩)
                  go_meet
                  exact ⟨rfl, rfl⟩
              case rest =>
                obtain ⟨rfl, rfl⟩ := hcut
                cases B2 with
                | true =>
                  obtain rfl : E2 = 0 := by
                    obtain ⟨l, hl⟩ := Option.isSome_iff_exists.1 B2H.out
                    rw [← E2H.out]
                    exact laid_zero hl
                  go_wp2_with (go_at_call 13; (with_reducible refine (c_num _ _).mono ?_); rintro e wn ⟨rfl, rfl⟩)
                  go_returns
                  exact ⟨rfl, HB.out⟩
                | false =>
                  by_cases h2 : E2 = 0
                  · subst h2
                    go_wp2_with (go_at_call 13; (with_reducible refine (c_num _ _).mono ?_); rintro e wn ⟨rfl, rfl⟩)
                    go_returns
                    exact ⟨rfl, HB.out⟩
                  · have h2' : (E2 == 0) = false := by simp [h2]
                    go_wp2_with (go_at_call 13; (with_reducible refine (c_num _ _).mono ?_); rintro e wn ⟨rfl, rfl⟩)
                    go_returns
                    exact ⟨rfl, HB.out⟩
end Go.Proofs.Ytcphjfggjjonpaa
