/- The walks of contain.Within and contain.Same. The walks of the document's SameAtom and Same. Printed by mk_klw.py. Copies: append of whatever slice onto one of the call's own; the walks of the law's ownAtom and own. -/
import Derived.Test.YtlalgaioiapjmaaGreatDoorG3
import Derived.BigRegion
import Derived.Laws.AppendOwnNone
namespace Go.Proofs.YtlalgaioiapjmaaGreatDoor.K
open Go.ChangeShapes Go.WideShapes Go.ChangeAt Go.RowKit
theorem laid_zero {r s : Rule} {l : List Nat} (h : (laid r s).2 = some l) : (laid r s).1 = 0 := by
  revert h
  unfold laid
  repeat' split
  all_goals simp
/-- What Laid answers, in one shape. -/
def LaidOut (r s : Rule) (w : World) (v : Value) (w' : World) : Prop :=
  (∃ a n cap, v = .slice a n cap) ∧ ((laid r s).2 = none → v = .slice none 0 0) ∧ ∀ l, (laid r s).2 = some l → w'.ownsRow w.heap.size 3 1 v l.length (intsV l)
theorem c_Laid2 (r s : Rule) (ah : Option Addr) (nh ch : Nat) (ab : Option Addr) (nb cb : Nat) (ah' : Option Addr) (nh' ch' : Nat) (ab' : Option Addr) (nb' cb' : Nat) (w : World) (hr : RuleV w r ah nh ch ab nb cb) (hs : RuleV w s ah' nh' ch' ab' nb' cb') :
    Calls Tryz.prog 107 #[.agg #[.string r.head.pred, .slice ah nh ch, .slice ab nb cb], .agg #[.string s.head.pred, .slice ah' nh' ch', .slice ab' nb' cb']] w
      fun e w' => ∃ a n cap, e = .returned (.tuple #[.slice a n cap, .bool (laid r s).2.isSome, .int .i64 (laid r s).1]) ∧ Ext w w' ∧ LaidOut r s w (.slice a n cap) w' := by
  refine (c_Laid r s ah nh ch ab nb cb ah' nh' ch' ab' nb' cb' w hr hs).mono fun e w' h => ?_
  obtain ⟨hb, h⟩ := h
  cases hl : (laid r s).2 with
  | none =>
    rw [hl] at h
    exact ⟨none, 0, 0, h, hb, ⟨_, _, _, rfl⟩, fun _ => rfl, fun l hl' => by rw [hl] at hl'; cases hl'⟩
  | some l =>
    rw [hl] at h
    obtain ⟨v, rfl, ho⟩ := h
    obtain ⟨a, cap, rfl, _⟩ := own_form ho
    exact ⟨a, _, cap, by rw [laid_zero hl]; rfl, hb, ⟨_, _, _, rfl⟩, fun hl' => by (rw [hl] at hl'; cases hl'), fun l' hl' => by rw [hl] at hl'; cases hl'; exact ho⟩
theorem c_Within (r s : Rule) (ah : Option Addr) (nh ch : Nat) (ab : Option Addr) (nb cb : Nat) (ah' : Option Addr) (nh' ch' : Nat) (ab' : Option Addr) (nb' cb' : Nat) (w : World) (hr : RuleV w r ah nh ch ab nb cb) (hs : RuleV w s ah' nh' ch' ab' nb' cb') :
    Calls Tryz.prog 76 #[.agg #[.string r.head.pred, .slice ah nh ch, .slice ab nb cb], .agg #[.string s.head.pred, .slice ah' nh' ch', .slice ab' nb' cb']] w fun e w' => e = .returned (.tuple #[.bool (laid r s).2.isSome, .int .i64 (laid r s).1]) ∧ Ext w w' := by
  have HR := Lib.hid hr
  have HS := Lib.hid hs
  clear hr hs
  go_enter Tryz.func76, Tryz.ntmps76
  go_wp2_with (go_at_call 107; (with_reducible refine (c_Laid2 r s _ _ _ _ _ _ _ _ _ _ _ _ _ (HR.out.keep (ext_alloc (ext_alloc (Below.refl _ _) _) _)) (HS.out.keep (ext_alloc (ext_alloc (Below.refl _ _) _) _))).mono ?_); rintro e w1 ⟨a, n, cap, rfl, hb, _⟩)
  go_ret2
  exact ⟨rfl, ext_after hb (ext_alloc (ext_alloc (Below.refl _ _) _) _)⟩
end Go.Proofs.YtlalgaioiapjmaaGreatDoor.K
namespace Go.Proofs.YtlalgaioiapjmaaGreatDoor.K
open Go.ChangeShapes Go.WideShapes Go.ChangeAt Go.RowKit
theorem sameT_step {ts us : List Term} {k : Nat} {t u : Term} (h : ts.take k = us.take k) (ht : ts[k]? = some t) (hu : us[k]? = some u) (e : t = u) : ts.take (k + 1) = us.take (k + 1) := by
  subst e
  rw [List.take_add_one, List.take_add_one, h, ht, hu]
theorem c_SameAtom (a o : Atom) (aa : Option Addr) (na ca : Nat) (ao : Option Addr) (no co : Nat) (w : World) (ha : TermsAt w aa na a.terms) (ho : TermsAt w ao no o.terms) :
    Calls Tryz.prog 57 #[.agg #[.string a.pred, .slice aa na ca], .agg #[.string o.pred, .slice ao no co]] w fun e w' => e = .returned (.bool (decide (a = o))) ∧ Ext w w' := by
  have hn := ha.1
  have LA := Lib.hid ha.2.1
  have LO := Lib.hid ho.2.1
  have HA := Lib.hid ha
  have HO := Lib.hid ho
  clear ha ho
  obtain ⟨b1, e1⟩ : ∃ b, (a.pred.toList == o.pred.toList) = b := ⟨_, rfl⟩
  obtain ⟨b2, e2⟩ : ∃ b, ((na : Int) != no) = b := ⟨_, rfl⟩
  have fin0 : Hid (a = o ↔ (b1 = true ∧ b2 = false) ∧ a.terms = o.terms) := by
    show _ ↔ _
    rw [beq_bytes] at e1
    subst e1 e2
    obtain ⟨p, ts⟩ := a
    obtain ⟨q, us⟩ := o
    simp only [Atom.mk.injEq]
    constructor
    · rintro ⟨rfl, rfl⟩
      have := LA.out.symm.trans LO.out
      simp [this]
    · rintro ⟨⟨h1, _⟩, h2⟩
      exact ⟨by simpa using h1, h2⟩
  obtain ⟨R, hR⟩ : ∃ R, R = decide (a = o) := ⟨_, rfl⟩
  rw [← hR]
  have HRR := Lib.hid hR
  clear hR
  cases b1 with
  | false =>
    go_enter Tryz.func57, Tryz.ntmps57
    go_wp2
    go_returns
    exact ⟨ret_bool (a := false) (b := R) (by rw [HRR.out, decide_eq_false (fun h => by simpa using (fin0.out.1 h).1)]), ext_alloc (ext_alloc (Below.refl _ _) _) _⟩
  | true =>
    cases b2 with
    | true =>
      go_enter Tryz.func57, Tryz.ntmps57
      go_wp2
      go_returns
      exact ⟨ret_bool (a := false) (b := R) (by rw [HRR.out, decide_eq_false (fun h => by simpa using (fin0.out.1 h).1)]), ext_alloc (ext_alloc (Below.refl _ _) _) _⟩
    | false =>
      obtain rfl : na = no := by
        have : (na : Int) = no := by simpa using e2
        omega
      have fin : Hid (a = o ↔ a.terms = o.terms) := by
        show _ ↔ _
        rw [fin0.out]
        simp
      clear fin0
      go_enter Tryz.func57, Tryz.ntmps57
      go_wp2
      refine wp_gen (fun W hW => ?_)
      have hb0 : Ext w W := by rw [hW]; go_grown
      have x4 : W.cell? ⟨w.heap.size, 1, none⟩ = some (.slice aa na ca) := by rw [hW]; go_simp
      have x6 : W.cell? ⟨w.heap.size + 1, 1, none⟩ = some (.slice ao na co) := by rw [hW]; go_simp
      have HAW := Lib.hid (HA.out.keep hb0)
      have HOW := Lib.hid (HO.out.keep hb0)
      clear hW e1 e2
      go_loopw [5] (fun i wr => ∃ k, k ≤ na ∧ i = .int .i64 (k : Int) ∧ Ext W wr ∧ a.terms.take k = o.terms.take k) (fun i _ => na - (intOf i).toNat)
      case atStart => exact ⟨0, by omega, rfl, Below.refl _ _, by simp⟩
      case round =>
        obtain ⟨k, hk, rfl, hst, hq⟩ := hrel
        have y4 := keep hst x4
        have y6 := keep hst x6
        have HQ := Lib.hid hq
        have HST := Lib.hid hst
        clear hq hst
        by_cases hlt : k < na
        · obtain ⟨t, bt, off, hx, rfl, hc1, hc2, hc3⟩ := (HAW.out.keep HST.out).2.at hlt
          obtain ⟨u, bu, offu, hxu, rfl, hu1, hu2, hu3⟩ := (HOW.out.keep HST.out).2.at hlt
          have HX := Lib.hid hx
          have HXU := Lib.hid hxu
          have eqt := neq_term t.kind u.kind t.text u.text
          have hki : (k : Int) < (na : Int) := by omega
          obtain ⟨b3, e3⟩ : ∃ b, termEq t.kind t.text u.kind u.text = b := ⟨_, rfl⟩
          have E3 := Lib.hid ((termEq_iff t u).symm.trans e3)
          rw [e3] at eqt
          clear hx hxu e3 x4 x6
          cases b3 with
          | false =>
            go_wp2
            go_quiet (fail)
            go_wp2
            go_returns
            refine ⟨ret_bool (a := false) (b := R) ?_, ext_drewN (ext_trans hb0 HST.out) _⟩
            rw [HRR.out, decide_eq_false]
            intro h
            have h2 := fin.out.1 h
            have h3 := HX.out
            rw [h2, HXU.out] at h3
            cases h3
            have := E3.out
            simp at this
          | true =>
            go_wp2
            go_quiet (fail)
            go_wp2
            go_roundw
            case rel => exact ⟨k + 1, by omega, by go_num, ext_drewN HST.out _, sameT_step HQ.out HX.out HXU.out (by simpa using E3.out)⟩
            case measure => simp [intOf]; omega
        · go_wp2
          go_returns
          refine ⟨ret_bool (a := true) (b := R) ?_, ext_trans hb0 HST.out⟩
          rw [HRR.out, decide_eq_true]
          refine fin.out.2 ?_
          have h := HQ.out
          rw [List.take_of_length_le (by rw [LA.out]; omega), List.take_of_length_le (by rw [LO.out]; omega)] at h
          exact h
theorem sameL_step {ls us : List Lit} {k : Nat} {t u : Lit} (h : ls.take k = us.take k) (ht : ls[k]? = some t) (hu : us[k]? = some u) (e : t = u) : ls.take (k + 1) = us.take (k + 1) := by
  subst e
  rw [List.take_add_one, List.take_add_one, h, ht, hu]
theorem lit_eq_iff (x y : Lit) : x = y ↔ x.kind = y.kind ∧ x.op = y.op ∧ x.left = y.left ∧ x.right = y.right ∧ x.atom = y.atom := by
  obtain ⟨k, a, o, l, r⟩ := x
  obtain ⟨k', a', o', l', r'⟩ := y
  simp only [Lit.mk.injEq]
  constructor
  · rintro ⟨rfl, rfl, rfl, rfl, rfl⟩; exact ⟨rfl, rfl, rfl, rfl, rfl⟩
  · rintro ⟨rfl, rfl, rfl, rfl, rfl⟩; exact ⟨rfl, rfl, rfl, rfl, rfl⟩
set_option maxRecDepth 20000 in
set_option maxHeartbeats 4000000 in
theorem c_SameR (a o : Rule) (ah : Option Addr) (nh ch : Nat) (ab : Option Addr) (nb cb : Nat) (ah' : Option Addr) (nh' ch' : Nat) (ab' : Option Addr) (nb' cb' : Nat) (w : World) (ha : RuleV w a ah nh ch ab nb cb) (ho : RuleV w o ah' nh' ch' ab' nb' cb') :
    Calls Tryz.prog 24 #[.agg #[.string a.head.pred, .slice ah nh ch, .slice ab nb cb], .agg #[.string o.head.pred, .slice ah' nh' ch', .slice ab' nb' cb']] w fun e w' => e = .returned (.bool (decide (a = o))) ∧ Ext w w' := by
  have hn := ha.body.1
  have LA := Lib.hid ha.body.2.1
  have LO := Lib.hid ho.body.2.1
  have HA := Lib.hid ha
  have HO := Lib.hid ho
  clear ha ho
  obtain ⟨b1, e1⟩ : ∃ b, decide (a.head = o.head) = b := ⟨_, rfl⟩
  obtain ⟨b2, e2⟩ : ∃ b, ((nb : Int) != nb') = b := ⟨_, rfl⟩
  have fin0 : Hid (a = o ↔ (b1 = true ∧ b2 = false) ∧ a.body = o.body) := by
    show _ ↔ _
    subst e1 e2
    obtain ⟨p, ts⟩ := a
    obtain ⟨q, us⟩ := o
    simp only [Rule.mk.injEq]
    constructor
    · rintro ⟨rfl, rfl⟩
      have := LA.out.symm.trans LO.out
      simp [this]
    · rintro ⟨⟨h1, _⟩, h2⟩
      exact ⟨by simpa using h1, h2⟩
  have E1 := Lib.hid e1
  clear e1
  obtain ⟨R, hR⟩ : ∃ R, R = decide (a = o) := ⟨_, rfl⟩
  rw [← hR]
  have HRR := Lib.hid hR
  clear hR
  cases b1 with
  | false =>
    go_enter Tryz.func24, Tryz.ntmps24
    go_wp2_with (go_at_call 57; (with_reducible refine (c_SameAtom a.head o.head _ _ _ _ _ _ _ (HA.out.terms.keep (ext_alloc (ext_alloc (Below.refl _ _) _) _)) (HO.out.terms.keep (ext_alloc (ext_alloc (Below.refl _ _) _) _))).mono ?_); rw [E1.out]; rintro e w1 ⟨rfl, h1⟩)
    go_returns
    exact ⟨ret_bool (a := false) (b := R) (by rw [HRR.out, decide_eq_false (fun h => by simpa using (fin0.out.1 h).1)]), ext_after h1 (ext_alloc (ext_alloc (Below.refl _ _) _) _)⟩
  | true =>
    cases b2 with
    | true =>
      go_enter Tryz.func24, Tryz.ntmps24
      go_upto_region 1 with (fail)
      refine wp_gen (fun W hW => ?_)
      have hb0 : Ext w W := by rw [hW]; go_grown
      have x0 : W.cell? ⟨w.heap.size, 0, none⟩ = some (.string a.head.pred) := by rw [hW]; go_simp
      have x1 : W.cell? ⟨w.heap.size, 1, none⟩ = some (.slice ah nh ch) := by rw [hW]; go_simp
      have x2 : W.cell? ⟨w.heap.size, 2, none⟩ = some (.slice ab nb cb) := by rw [hW]; go_simp
      have y0 : W.cell? ⟨w.heap.size + 1, 0, none⟩ = some (.string o.head.pred) := by rw [hW]; go_simp
      have y1 : W.cell? ⟨w.heap.size + 1, 1, none⟩ = some (.slice ah' nh' ch') := by rw [hW]; go_simp
      have y2 : W.cell? ⟨w.heap.size + 1, 2, none⟩ = some (.slice ab' nb' cb') := by rw [hW]; go_simp
      clear hW
      go_wp2_with (go_at_call 57; (with_reducible refine (c_SameAtom a.head o.head _ _ _ _ _ _ _ (HA.out.terms.keep hb0) (HO.out.terms.keep hb0)).mono ?_); rw [E1.out]; rintro e w1 ⟨rfl, h1⟩; have x2 := keep h1 x2; have y2 := keep h1 y2)
      go_returns
      exact ⟨ret_bool (a := false) (b := R) (by rw [HRR.out, decide_eq_false (fun h => by simpa using (fin0.out.1 h).1)]), ext_after h1 hb0⟩
    | false =>
      obtain rfl : nb = nb' := by
        have : (nb : Int) = nb' := by simpa using e2
        omega
      have fin : Hid (a = o ↔ a.body = o.body) := by
        show _ ↔ _
        rw [fin0.out]
        simp
      clear fin0
      go_enter Tryz.func24, Tryz.ntmps24
      go_upto_region 1 with (fail)
      refine wp_gen (fun W hW => ?_)
      have hb0 : Ext w W := by rw [hW]; go_grown
      have x0 : W.cell? ⟨w.heap.size, 0, none⟩ = some (.string a.head.pred) := by rw [hW]; go_simp
      have x1 : W.cell? ⟨w.heap.size, 1, none⟩ = some (.slice ah nh ch) := by rw [hW]; go_simp
      have x2 : W.cell? ⟨w.heap.size, 2, none⟩ = some (.slice ab nb cb) := by rw [hW]; go_simp
      have y0 : W.cell? ⟨w.heap.size + 1, 0, none⟩ = some (.string o.head.pred) := by rw [hW]; go_simp
      have y1 : W.cell? ⟨w.heap.size + 1, 1, none⟩ = some (.slice ah' nh' ch') := by rw [hW]; go_simp
      have y2 : W.cell? ⟨w.heap.size + 1, 2, none⟩ = some (.slice ab' nb cb') := by rw [hW]; go_simp
      clear hW
      go_wp2_with (go_at_call 57; (with_reducible refine (c_SameAtom a.head o.head _ _ _ _ _ _ _ (HA.out.terms.keep hb0) (HO.out.terms.keep hb0)).mono ?_); rw [E1.out]; rintro e w1 ⟨rfl, h1⟩; have x2 := keep h1 x2; have y2 := keep h1 y2)
      have hb1 := ext_trans hb0 h1
      have HAW := Lib.hid (HA.out.body.keep hb1)
      have HOW := Lib.hid (HO.out.body.keep hb1)
      clear e2 x0 x1 y0 y1 h1 hb0
      go_loopw [5] (fun i wr => ∃ k, k ≤ nb ∧ i = .int .i64 (k : Int) ∧ Ext w1 wr ∧ a.body.take k = o.body.take k) (fun i _ => nb - (intOf i).toNat)
      case atStart => exact ⟨0, by omega, rfl, Below.refl _ _, by simp⟩
      case round =>
        obtain ⟨k, hk, rfl, hst, hq⟩ := hrel
        have z4 := keep hst x2
        have z6 := keep hst y2
        have HQ := Lib.hid hq
        have HST := Lib.hid hst
        clear hq hst
        by_cases hge : nb ≤ k
        · go_wp2
          go_returns
          refine ⟨ret_bool (a := true) (b := R) ?_, ext_trans hb1 HST.out⟩
          rw [HRR.out, decide_eq_true]
          refine fin.out.2 ?_
          have h := HQ.out
          rw [List.take_of_length_le (by rw [LA.out]; omega), List.take_of_length_le (by rw [LO.out]; omega)] at h
          exact h
        · have hlt : k < nb := by omega
          obtain ⟨x, bt, off, hx, rfl, xa, xn, xc, h0, h1, h2, h3, h4, h5, h6, h7, ht, hcap, _⟩ := (HAW.out.keep HST.out).2.at hlt
          obtain ⟨y, bu, offu, hxu, rfl, ya, yn, yc, g0, g1, g2, g3, g4, g5, g6, g7, gt, gcap, _⟩ := (HOW.out.keep HST.out).2.at hlt
          have HX := Lib.hid hx
          have HXU := Lib.hid hxu
          have HT := Lib.hid ht
          have GT := Lib.hid gt
          have hki : (k : Int) < (nb : Int) := by omega
          clear hx hxu ht gt hcap gcap x2 y2
          have hd : Ext wr wr.drew := ext_drew (Below.refl _ _)
          go_upto_region 6 with (fail)
          go_cut [6, 7] (fun v6 v7 wc => ∃ b6 b7, v6 = .pointer (some ⟨b6, 0, none⟩) ∧ v7 = .pointer (some ⟨b7, 0, none⟩) ∧ Ext wr wc ∧ (wc.cell? ⟨b6, 0, none⟩ = some (.int .i64 x.kind) ∧ wc.cell? ⟨b6, 1, none⟩ = some (.string x.atom.pred) ∧ wc.cell? ⟨b6, 2, none⟩ = some (.slice xa xn xc) ∧ wc.cell? ⟨b6, 3, none⟩ = some (.int .i64 x.op) ∧ wc.cell? ⟨b6, 4, none⟩ = some (.int .i64 x.left.kind) ∧ wc.cell? ⟨b6, 5, none⟩ = some (.string x.left.text) ∧ wc.cell? ⟨b6, 6, none⟩ = some (.int .i64 x.right.kind) ∧ wc.cell? ⟨b6, 7, none⟩ = some (.string x.right.text)) ∧ wc.cell? ⟨b7, 0, none⟩ = some (.int .i64 y.kind) ∧ wc.cell? ⟨b7, 1, none⟩ = some (.string y.atom.pred) ∧ wc.cell? ⟨b7, 2, none⟩ = some (.slice ya yn yc) ∧ wc.cell? ⟨b7, 3, none⟩ = some (.int .i64 y.op) ∧ wc.cell? ⟨b7, 4, none⟩ = some (.int .i64 y.left.kind) ∧ wc.cell? ⟨b7, 5, none⟩ = some (.string y.left.text) ∧ wc.cell? ⟨b7, 6, none⟩ = some (.int .i64 y.right.kind) ∧ wc.cell? ⟨b7, 7, none⟩ = some (.string y.right.text))
          case first =>
            have n1 := World.new_ne wr _ z4
            have n2 := World.new_ne wr _ z6
            have n3 := World.new_ne wr _ h0
            have n4 := World.new_ne wr _ g0
            have n5 := World.block_lt_of_cell? wr _ z4
            have n6 := World.block_lt_of_cell? wr _ z6
            have n7 := World.block_lt_of_cell? wr _ h0
            have n8 := World.block_lt_of_cell? wr _ g0
            dsimp only at n1 n2 n3 n4 n5 n6 n7 n8
            go_region_held3 (fun w' => w'.cell? ⟨w.heap.size, 2, none⟩ = some (.slice (some ⟨bt, off, none⟩) nb cb) ∧ w'.cell? ⟨w.heap.size + 1, 2, none⟩ = some (.slice (some ⟨bu, offu, none⟩) nb cb') ∧ w'.cell? ⟨bt, off + k * 8, none⟩ = some (.int .i64 x.kind) ∧ w'.cell? ⟨bt, off + k * 8 + 1, none⟩ = some (.string x.atom.pred) ∧ w'.cell? ⟨bt, off + k * 8 + 2, none⟩ = some (.slice xa xn xc) ∧ w'.cell? ⟨bt, off + k * 8 + 3, none⟩ = some (.int .i64 x.op) ∧ w'.cell? ⟨bt, off + k * 8 + 4, none⟩ = some (.int .i64 x.left.kind) ∧ w'.cell? ⟨bt, off + k * 8 + 5, none⟩ = some (.string x.left.text) ∧ w'.cell? ⟨bt, off + k * 8 + 6, none⟩ = some (.int .i64 x.right.kind) ∧ w'.cell? ⟨bt, off + k * 8 + 7, none⟩ = some (.string x.right.text) ∧ w'.cell? ⟨bu, offu + k * 8, none⟩ = some (.int .i64 y.kind) ∧ w'.cell? ⟨bu, offu + k * 8 + 1, none⟩ = some (.string y.atom.pred) ∧ w'.cell? ⟨bu, offu + k * 8 + 2, none⟩ = some (.slice ya yn yc) ∧ w'.cell? ⟨bu, offu + k * 8 + 3, none⟩ = some (.int .i64 y.op) ∧ w'.cell? ⟨bu, offu + k * 8 + 4, none⟩ = some (.int .i64 y.left.kind) ∧ w'.cell? ⟨bu, offu + k * 8 + 5, none⟩ = some (.string y.left.text) ∧ w'.cell? ⟨bu, offu + k * 8 + 6, none⟩ = some (.int .i64 y.right.kind) ∧ w'.cell? ⟨bu, offu + k * 8 + 7, none⟩ = some (.string y.right.text))
              (first | go_keep | fail)
              (fail)
            all_goals
              go_wp2
              go_meet
              exact ⟨_, _, rfl, rfl, by go_grown, ⟨by go_simp, by go_simp, by go_simp, by go_simp, by go_simp, by go_simp, by go_simp, by go_simp⟩, ⟨by go_simp, by go_simp, by go_simp, by go_simp, by go_simp, by go_simp, by go_simp, by go_simp⟩⟩
          case rest =>
            obtain ⟨b6, b7, rfl, rfl, hc, ⟨p0, p1, p2, p3, p4, p5, p6, p7⟩, ⟨q0, q1, q2, q3, q4, q5, q6, q7⟩⟩ := hcut
            have HC := Lib.hid (ext_trans HST.out hc)
            have HE := Lib.hid (ext_trans hb1 (ext_trans HST.out hc))
            have TX := Lib.hid (HT.out.keep hc)
            have TY := Lib.hid (GT.out.keep hc)
            clear hc h0 h1 h2 h3 h4 h5 h6 h7 g0 g1 g2 g3 g4 g5 g6 g7 hd
            obtain ⟨c1, d1⟩ : ∃ b, (x.kind != y.kind) = b := ⟨_, rfl⟩
            obtain ⟨c2, d2⟩ : ∃ b, (x.op != y.op) = b := ⟨_, rfl⟩
            obtain ⟨c3, d3⟩ : ∃ b, termEq x.left.kind x.left.text y.left.kind y.left.text = b := ⟨_, rfl⟩
            obtain ⟨c4, d4⟩ : ∃ b, termEq x.right.kind x.right.text y.right.kind y.right.text = b := ⟨_, rfl⟩
            obtain ⟨c5, d5⟩ : ∃ b, decide (x.atom = y.atom) = b := ⟨_, rfl⟩
            have eql := neq_term x.left.kind y.left.kind x.left.text y.left.text
            have eqr := neq_term x.right.kind y.right.kind x.right.text y.right.text
            rw [d3] at eql
            rw [d4] at eqr
            have D3 := Lib.hid ((termEq_iff x.left y.left).symm.trans d3)
            have D4 := Lib.hid ((termEq_iff x.right y.right).symm.trans d4)
            have D5 := Lib.hid d5
            have D1 := Lib.hid d1
            have D2 := Lib.hid d2
            clear d3 d4 d5
            cases c1 with
            | true =>
              go_wp2
              go_returns
              refine ⟨ret_bool (a := false) (b := R) ?_, HE.out⟩
              rw [HRR.out, decide_eq_false]
              intro h
              have h2 := fin.out.1 h
              have h3 := HX.out
              rw [h2, HXU.out] at h3
              cases h3
              have := D1.out; simp at this
            | false =>
              cases c2 with
              | true =>
                go_wp2
                go_returns
                refine ⟨ret_bool (a := false) (b := R) ?_, HE.out⟩
                rw [HRR.out, decide_eq_false]
                intro h
                have h2 := fin.out.1 h
                have h3 := HX.out
                rw [h2, HXU.out] at h3
                cases h3
                have := D2.out; simp at this
              | false =>
                cases c3 with
                | false =>
                  go_wp2
                  go_returns
                  refine ⟨ret_bool (a := false) (b := R) ?_, HE.out⟩
                  rw [HRR.out, decide_eq_false]
                  intro h
                  have h2 := fin.out.1 h
                  have h3 := HX.out
                  rw [h2, HXU.out] at h3
                  cases h3
                  have := D3.out; simp at this
                | true =>
                  cases c4 with
                  | false =>
                    go_wp2
                    go_returns
                    refine ⟨ret_bool (a := false) (b := R) ?_, HE.out⟩
                    rw [HRR.out, decide_eq_false]
                    intro h
                    have h2 := fin.out.1 h
                    have h3 := HX.out
                    rw [h2, HXU.out] at h3
                    cases h3
                    have := D4.out; simp at this
                  | true =>
                    cases c5 with
                    | false =>
                      go_wp2_with (go_at_call 57; (with_reducible refine (c_SameAtom x.atom y.atom _ _ _ _ _ _ _ TX.out TY.out).mono ?_); rw [D5.out]; rintro e w8 ⟨rfl, h8⟩)
                      go_returns
                      refine ⟨ret_bool (a := false) (b := R) ?_, ext_trans HE.out h8⟩
                      rw [HRR.out, decide_eq_false]
                      intro h
                      have h2 := fin.out.1 h
                      have h3 := HX.out
                      rw [h2, HXU.out] at h3
                      cases h3
                      have := D5.out; simp at this
                    | true =>
                      go_wp2_with (go_at_call 57; (with_reducible refine (c_SameAtom x.atom y.atom _ _ _ _ _ _ _ TX.out TY.out).mono ?_); rw [D5.out]; rintro e w8 ⟨rfl, h8⟩)
                      go_roundw
                      case rel => exact ⟨k + 1, by omega, by go_num, ext_trans HC.out h8, sameL_step HQ.out HX.out HXU.out ((lit_eq_iff x y).2 ⟨by simpa using D1.out, by simpa using D2.out, by simpa using D3.out, by simpa using D4.out, by simpa using D5.out⟩)⟩
                      case measure => simp [intOf]; omega
end Go.Proofs.YtlalgaioiapjmaaGreatDoor.K
namespace Go.Proofs.YtlalgaioiapjmaaGreatDoor.K
open Go.ChangeShapes Go.WideShapes Go.ChangeAt Go.RowKit
section
variable {P : Program} {w : World}
end
def flatT (ts : List Term) : List Value := ts.flatMap fun t => [.int .i64 t.kind, .string t.text]
theorem flatT_len (ts : List Term) : (flatT ts).length = ts.length * 2 := by
  induction ts with
  | nil => rfl
  | cons t ts ih => simp only [flatT, List.flatMap_cons, List.length_append, List.length_cons, List.length_nil] at ih ⊢; omega
theorem flatT_append (a b : List Term) : flatT (a ++ b) = flatT a ++ flatT b := by simp [flatT]
theorem flatT_one (ts : List Term) : ∀ u ∈ flatT ts, u.oneCell' = true := by
  intro u hu
  obtain ⟨t, _, h⟩ := List.mem_flatMap.1 hu
  simp at h
  rcases h with rfl | rfl <;> rfl
theorem flatT_get (ts : List Term) (i : Nat) (t : Term) (h : ts[i]? = some t) : (flatT ts)[i * 2]? = some (.int .i64 t.kind) ∧ (flatT ts)[i * 2 + 1]? = some (.string t.text) := by
  induction ts generalizing i with
  | nil => simp at h
  | cons a ts ih =>
    cases i with
    | zero => simp at h; subst h; simp [flatT]
    | succ i =>
      have := ih i (by simpa using h)
      have e : (flatT (a :: ts)) = [.int .i64 a.kind, .string a.text] ++ flatT ts := by simp [flatT]
      rw [e, show (i + 1) * 2 = i * 2 + 2 by omega, show i * 2 + 2 + 1 = (i * 2 + 1) + 2 by omega]
      simpa using this
theorem flatT_cell {w : World} {a : Option Addr} {n : Nat} {ts : List Term} (h : TermsAt w a n ts) {ad : Addr} (ha : a = some ad) : ∀ j u, (flatT ts)[j]? = some u → w.cell? (ad.add j) = some u := by
  intro j u hu
  have hj := (List.getElem?_eq_some_iff.1 hu).1
  rw [flatT_len] at hj
  have hi : j / 2 < ts.length := by omega
  obtain ⟨b, off, e, h1, h2, _⟩ := h.2.2 (j / 2) ts[j / 2] (List.getElem?_eq_getElem hi)
  rw [ha] at e
  cases e
  obtain ⟨g1, g2⟩ := flatT_get ts (j / 2) _ (List.getElem?_eq_getElem hi)
  rw [Addr.add_lit]
  rcases Nat.mod_two_eq_zero_or_one j with hm | hm
  · have e : j / 2 * 2 = j := by omega
    rw [e] at g1 h1
    rw [g1] at hu
    cases hu
    exact h1
  · have e : j / 2 * 2 + 1 = j := by omega
    rw [e] at g2
    have e2 : off + j / 2 * 2 + 1 = off + j := by omega
    rw [e2] at h2
    rw [g2] at hu
    cases hu
    exact h2
theorem own_terms {w : World} {base n cap m : Nat} {g : Nat} {ts rest : List Term} (h : w.ownsRow base 42 2 (.slice (some ⟨g, 0, none⟩) m cap) m (flatT (ts ++ rest))) (hn : ts.length = n) (hb : n ≤ 5864062014634) (hs : ∀ t ∈ ts, t.text.size ≤ maxLen) : TermsAt w (some ⟨g, 0, none⟩) n ts := by
  refine ⟨hb, hn, fun i t ht => ⟨g, 0, rfl, ?_, ?_, hs t (List.mem_of_getElem? ht)⟩⟩
  · obtain ⟨g1, _⟩ := flatT_get (ts ++ rest) i t (by rw [List.getElem?_append_left (List.getElem?_eq_some_iff.1 ht).1]; exact ht)
    have := h.cells (g := g) rfl _ _ g1
    rw [Addr.add_lit] at this
    exact this
  · obtain ⟨_, g2⟩ := flatT_get (ts ++ rest) i t (by rw [List.getElem?_append_left (List.getElem?_eq_some_iff.1 ht).1]; exact ht)
    have := h.cells (g := g) rfl _ _ g2
    rw [Addr.add_lit] at this
    rw [Nat.add_assoc]
    exact this
theorem TermsAt.texts {w : World} {a : Option Addr} {n : Nat} {ts : List Term} (h : TermsAt w a n ts) : ∀ t ∈ ts, t.text.size ≤ maxLen := by
  intro t ht
  obtain ⟨i, hi, rfl⟩ := List.getElem_of_mem ht
  obtain ⟨_, _, _, _, _, h3⟩ := h.2.2 i _ (List.getElem?_eq_getElem hi)
  exact h3
/-- The mark behind a list of terms. -/
def markT : Term := ⟨-77, ⟨#[]⟩⟩
/-- What ownAtom hands back: the terms in a row of the call's own, the mark behind them. -/
def OwnT (w : World) (base : Nat) (ts : List Term) (g cap : Nat) : Prop :=
  w.ownsRow base 42 2 (.slice (some ⟨g, 0, none⟩) (ts.length + 1) cap) (ts.length + 1) (flatT (ts ++ [markT])) ∧ ts.length + 1 ≤ cap
theorem info_term : (Tryz.prog.info? 42).map (fun i => (i.zero, i.size, i.bytes)) = some (some (.agg #[.int .i64 0, .string ⟨#[]⟩]), 2, 24) := by kernel_rfl
theorem set2_read {w : World} {b c : Nat} (hbc : b ≠ c) {u0 u1 : Value} (h0 : w.cell? ⟨c, 0, none⟩ = some u0) (h1 : w.cell? ⟨c, 1, none⟩ = some u1) (v p : Value) :
    ((w.setCell ⟨b, 1, none⟩ v).setCell ⟨c, 0, none⟩ p).cell? ⟨c, 0, none⟩ = some p ∧ ((w.setCell ⟨b, 1, none⟩ v).setCell ⟨c, 0, none⟩ p).cell? ⟨c, 1, none⟩ = some u1 := by
  have o0 : (w.setCell ⟨b, 1, none⟩ v).cell? ⟨c, 0, none⟩ = some u0 := by rw [World.cell?_setCell_other]; exact h0; simp
  have o1 : (w.setCell ⟨b, 1, none⟩ v).cell? ⟨c, 1, none⟩ = some u1 := by rw [World.cell?_setCell_other]; exact h1; exact fun e => hbc (congrArg Addr.block e)
  refine ⟨World.cell?_setCell_same _ _ _ o0, ?_⟩
  rw [World.cell?_setCell_other]; exact o1; simp
theorem mark_cell (w : World) : ∀ ad, some (⟨w.heap.size, 0, none⟩ : Addr) = some ad → ∀ j u, (flatT [markT])[j]? = some u → (w.alloc (.cells #[.int .i64 (-77), .string ⟨#[]⟩] 42)).cell? (ad.add j) = some u := by
  intro ad e j u hu
  cases e
  have hj := (List.getElem?_eq_some_iff.1 hu).1
  rw [flatT_len] at hj
  simp at hj
  rw [Addr.add_lit, World.cell?_alloc_new]
  match j, hj with
  | 0, _ => simpa [flatT, markT] using hu
  | 1, _ => simpa [flatT, markT] using hu
end Go.Proofs.YtlalgaioiapjmaaGreatDoor.K
