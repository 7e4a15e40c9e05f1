/- The walks of contain.Same and of the document's SameAtom and Same. -/
import Derived.Test.YtcphjfggjjonpaaWithin
namespace Go.Proofs.Ytcphjfggjjonpaa
open Go.ChangeShapes Go.WideShapes Go.ChangeAt Go.RowKit
/-- contain.Same, as a plain function. -/
def sameC (r s : Rule) : Bool × Int := if (laid r s).2.isSome = false then (false, (laid r s).1) else ((laid s r).2.isSome, (laid s r).1)
theorem c_SameC (r s : Rule) (ah : Option Addr) (nh ch : Nat) (ab : Option Addr) (nb cb : Nat) (ah' : Option Addr) (nh' ch' : Nat) (ab' : Option Addr) (nb' cb' : Nat) (w : World) (hr : RuleV w r ah nh ch ab nb cb) (hs : RuleV w s ah' nh' ch' ab' nb' cb') :
    Calls Try.prog 22 #[.agg #[.string r.head.pred, .slice ah nh ch, .slice ab nb cb], .agg #[.string s.head.pred, .slice ah' nh' ch', .slice ab' nb' cb']] w fun e w' => e = .returned (.tuple #[.bool (sameC r s).1, .int .i64 (sameC r s).2]) ∧ Ext w w' := by
  have HR := Lib.hid hr
  have HS := Lib.hid hs
  clear hr hs
  go_enter Try.func22, Try.ntmps22
  go_upto_region 1 with (fail)
  refine wp_gen (fun W hW => ?_)
  have hb0 : Ext w W := by rw [hW]; go_grown
  have x0 : W.cell? ⟨w.heap.size, 0, none⟩ = some (.string r.head.pred) := by rw [hW]; go_simp
  have x1 : W.cell? ⟨w.heap.size, 1, none⟩ = some (.slice ah nh ch) := by rw [hW]; go_simp
  have x2 : W.cell? ⟨w.heap.size, 2, none⟩ = some (.slice ab nb cb) := by rw [hW]; go_simp
  have y0 : W.cell? ⟨w.heap.size + 1, 0, none⟩ = some (.string s.head.pred) := by rw [hW]; go_simp
  have y1 : W.cell? ⟨w.heap.size + 1, 1, none⟩ = some (.slice ah' nh' ch') := by rw [hW]; go_simp
  have y2 : W.cell? ⟨w.heap.size + 1, 2, none⟩ = some (.slice ab' nb' cb') := by rw [hW]; go_simp
  clear hW
  obtain ⟨B, hB⟩ : ∃ b, (laid r s).2.isSome = b := ⟨_, rfl⟩
  have HB := Lib.hid hB
  clear hB
  cases B with
  | false =>
    go_wp2_with (go_at_call 16; (with_reducible refine (c_Within r s _ _ _ _ _ _ _ _ _ _ _ _ W (HR.out.keep hb0) (HS.out.keep hb0)).mono ?_); rw [HB.out]; rintro e w1 ⟨rfl, hb⟩)
    go_ret2
    exact ⟨by unfold sameC; rw [if_pos HB.out]; rfl, ext_trans hb0 hb⟩
  | true =>
    go_wp2_with (first | (go_at_call 16; (with_reducible refine (c_Within r s _ _ _ _ _ _ _ _ _ _ _ _ W (HR.out.keep hb0) (HS.out.keep hb0)).mono ?_); rw [HB.out]; rintro e w1 ⟨rfl, hb⟩; have x0 := keep hb x0; have x1 := keep hb x1; have x2 := keep hb x2; have y0 := keep hb y0; have y1 := keep hb y1; have y2 := keep hb y2; have g1 := ext_trans hb0 hb) | (go_at_call 16; (with_reducible refine (c_Within s r _ _ _ _ _ _ _ _ _ _ _ _ w1 (HS.out.keep g1) (HR.out.keep g1)).mono ?_); rintro e w2 ⟨rfl, hb2⟩))
    go_ret2
    exact ⟨by unfold sameC; rw [if_neg (by rw [HB.out]; simp)]; rfl, ext_trans g1 hb2⟩
theorem sameT_step {ts us : List Term} {k : Nat} {t u : Term} (h : ts.take k = us.take k) (ht : ts[k]? = some t) (hu : us[k]? = some u) (e : t = u) : ts.take (k + 1) = us.take (k + 1) := by
  subst e
  rw [List.take_add_one, List.take_add_one, h, ht, hu]
theorem c_SameAtom (a o : Atom) (aa : Option Addr) (na ca : Nat) (ao : Option Addr) (no co : Nat) (w : World) (ha : TermsAt w aa na a.terms) (ho : TermsAt w ao no o.terms) :
    Calls Try.prog 56 #[.agg #[.string a.pred, .slice aa na ca], .agg #[.string o.pred, .slice ao no co]] w fun e w' => e = .returned (.bool (decide (a = o))) ∧ Ext w w' := by
  have hn := ha.1
  have LA := Lib.hid ha.2.1
  have LO := Lib.hid ho.2.1
  have HA := Lib.hid ha
  have HO := Lib.hid ho
  clear ha ho
  obtain ⟨b1, e1⟩ : ∃ b, (a.pred.toList == o.pred.toList) = b := ⟨_, rfl⟩
  obtain ⟨b2, e2⟩ : ∃ b, ((na : Int) != no) = b := ⟨_, rfl⟩
  have fin0 : Hid (a = o ↔ (b1 = true ∧ b2 = false) ∧ a.terms = o.terms) := by
    show _ ↔ _
    rw [beq_bytes] at e1
    subst e1 e2
    obtain ⟨p, ts⟩ := a
    obtain ⟨q, us⟩ := o
    simp only [Atom.mk.injEq]
    constructor
    · rintro ⟨rfl, rfl⟩
      have := LA.out.symm.trans LO.out
      simp [this]
    · rintro ⟨⟨h1, _⟩, h2⟩
      exact ⟨by simpa using h1, h2⟩
  obtain ⟨R, hR⟩ : ∃ R, R = decide (a = o) := ⟨_, rfl⟩
  rw [← hR]
  have HRR := Lib.hid hR
  clear hR
  cases b1 with
  | false =>
    go_enter Try.func56, Try.ntmps56
    go_wp2
    go_returns
    exact ⟨ret_bool (a := false) (b := R) (by rw [HRR.out, decide_eq_false (fun h => by simpa using (fin0.out.1 h).1)]), ext_alloc (ext_alloc (Below.refl _ _) _) _⟩
  | true =>
    cases b2 with
    | true =>
      go_enter Try.func56, Try.ntmps56
      go_wp2
      go_returns
      exact ⟨ret_bool (a := false) (b := R) (by rw [HRR.out, decide_eq_false (fun h => by simpa using (fin0.out.1 h).1)]), ext_alloc (ext_alloc (Below.refl _ _) _) _⟩
    | false =>
      obtain rfl : na = no := by
        have : (na : Int) = no := by simpa using e2
        omega
      have fin : Hid (a = o ↔ a.terms = o.terms) := by
        show _ ↔ _
        rw [fin0.out]
        simp
      clear fin0
      go_enter Try.func56, Try.ntmps56
      go_wp2
      refine wp_gen (fun W hW => ?_)
      have hb0 : Ext w W := by rw [hW]; go_grown
      have x4 : W.cell? ⟨w.heap.size, 1, none⟩ = some (.slice aa na ca) := by rw [hW]; go_simp
      have x6 : W.cell? ⟨w.heap.size + 1, 1, none⟩ = some (.slice ao na co) := by rw [hW]; go_simp
      have HAW := Lib.hid (HA.out.keep hb0)
      have HOW := Lib.hid (HO.out.keep hb0)
      clear hW e1 e2
      go_loopw [5] (fun i wr => ∃ k, k ≤ na ∧ i = .int .i64 (k : Int) ∧ Ext W wr ∧ a.terms.take k = o.terms.take k) (fun i _ => na - (intOf i).toNat)
      case atStart => exact ⟨0, by omega, rfl, Below.refl _ _, by simp⟩
      case round =>
        obtain ⟨k, hk, rfl, hst, hq⟩ := hrel
        have y4 := keep hst x4
        have y6 := keep hst x6
        have HQ := Lib.hid hq
        have HST := Lib.hid hst
        clear hq hst
        by_cases hlt : k < na
        · obtain ⟨t, bt, off, hx, rfl, hc1, hc2, hc3⟩ := (HAW.out.keep HST.out).2.at hlt
          obtain ⟨u, bu, offu, hxu, rfl, hu1, hu2, hu3⟩ := (HOW.out.keep HST.out).2.at hlt
          have HX := Lib.hid hx
          have HXU := Lib.hid hxu
          have eqt := neq_term t.kind u.kind t.text u.text
          have hki : (k : Int) < (na : Int) := by omega
          obtain ⟨b3, e3⟩ : ∃ b, termEq t.kind t.text u.kind u.text = b := ⟨_, rfl⟩
          have E3 := Lib.hid ((termEq_iff t u).symm.trans e3)
          rw [e3] at eqt
          clear hx hxu e3 x4 x6
          cases b3 with
          | false =>
            go_wp2
            go_quiet (fail)
            go_wp2
            go_returns
            refine ⟨ret_bool (a := false) (b := R) ?_, ext_drewN (ext_trans hb0 HST.out) _⟩
            rw [HRR.out, decide_eq_false]
            intro h
            have h2 := fin.out.1 h
            have h3 := HX.out
            rw [h2, HXU.out] at h3
            cases h3
            have := E3.out
            simp at this
          | true =>
            go_wp2
            go_quiet (fail)
            go_wp2
            go_roundw
            case rel => exact ⟨k + 1, by omega, by go_num, ext_drewN HST.out _, sameT_step HQ.out HX.out HXU.out (by simpa using E3.out)⟩
            case measure => simp [intOf]; omega
        · go_wp2
          go_returns
          refine ⟨ret_bool (a := true) (b := R) ?_, ext_trans hb0 HST.out⟩
          rw [HRR.out, decide_eq_true]
          refine fin.out.2 ?_
          have h := HQ.out
          rw [List.take_of_length_le (by rw [LA.out]; omega), List.take_of_length_le (by rw [LO.out]; omega)] at h
          exact h
end Go.Proofs.Ytcphjfggjjonpaa
