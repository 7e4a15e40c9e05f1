/- The walks of the document's stands and Plain. -/
import Derived.Test.YtcphjfggjjonpaaRef08
import Derived.Test.YtcphjfggjjonpaaPlain
namespace Go.Proofs.Ytcphjfggjjonpaa
open Go.ChangeShapes Go.WideShapes Go.ChangeAt Go.RowKit
theorem mem_termVars {ts : List Term} {v : ByteArray} : v ∈ termVars ts ↔ ∃ t ∈ ts, t.kind = 1 ∧ t.text = v := by
  unfold termVars
  simp only [List.mem_filterMap]
  constructor
  · rintro ⟨t, ht, h⟩
    by_cases hk : t.kind = 1
    · rw [if_pos hk] at h
      exact ⟨t, ht, hk, Option.some.inj h⟩
    · rw [if_neg hk] at h
      cases h
  · rintro ⟨t, ht, hk, h⟩
    exact ⟨t, ht, by rw [if_pos hk, h]⟩
theorem termVars_cons (t : Term) (ts : List Term) (v : ByteArray) : v ∈ termVars (t :: ts) ↔ (t.kind = 1 ∧ t.text = v) ∨ v ∈ termVars ts := by
  rw [mem_termVars, mem_termVars]
  simp
theorem bodyVars_cons (l : Lit) (ls : List Lit) (v : ByteArray) : v ∈ bodyVars (l :: ls) ↔ v ∈ termVars l.atom.terms ∨ v ∈ bodyVars ls := by
  unfold bodyVars
  simp
set_option maxRecDepth 20000 in
theorem c_stands (r : Rule) (v : ByteArray) (ah : Option Addr) (nh ch : Nat) (ab : Option Addr) (nb cb : Nat) (w : World) (hr : RuleV w r ah nh ch ab nb cb) :
    Calls Try.prog 46 #[.agg #[.string r.head.pred, .slice ah nh ch, .slice ab nb cb], .string v] w fun e w' => e = .returned (.bool (decide (v ∈ bodyVars r.body))) ∧ Ext w w' := by
  obtain ⟨R, hR⟩ : ∃ R, R = decide (v ∈ bodyVars r.body) := ⟨_, rfl⟩
  rw [← hR]
  have HRR := Lib.hid hR
  have HL := Lib.hid hr.body.2.1
  have hn := hr.body.1
  have HR := Lib.hid hr
  clear hR hr
  go_enter Try.func46, Try.ntmps46
  go_wp2
  refine wp_gen (fun W hW => ?_)
  have hb0 : Ext w W := by rw [hW]; go_grown
  have x2 : W.cell? ⟨w.heap.size, 2, none⟩ = some (.slice ab nb cb) := by rw [hW]; go_simp
  clear hW
  have HB := Lib.hid (HR.out.body.keep hb0)
  go_loopw [5] (fun i wj => ∃ k, k ≤ nb ∧ i = .int .i64 (k : Int) ∧ Ext W wj ∧ (v ∈ bodyVars r.body ↔ v ∈ bodyVars (r.body.drop k))) (fun i _ => nb - (intOf i).toNat)
  case atStart => exact ⟨0, by omega, rfl, Below.refl _ _, by simp⟩
  case round =>
    obtain ⟨k, hk, rfl, hb, hq⟩ := hrel
    have y2 := keep hb x2
    have HQ := Lib.hid hq
    have HE := Lib.hid hb
    clear hq
    by_cases hge : nb ≤ k
    · go_wp2
      go_returns
      refine ⟨ret_bool (a := false) (b := R) ?_, ext_trans hb0 hb⟩
      rw [HRR.out, decide_eq_false]
      rw [HQ.out, List.drop_of_length_le (by rw [HL.out]; omega)]
      simp [bodyVars]
    · have hlt : k < nb := by omega
      obtain ⟨l, bt_, off, hx, rfl, a, n, cap, h0, h1, h2, h3, h4, h5, h6, h7, ht, hcap, _⟩ := (HB.out.keep hb).2.at hlt
      have HX := Lib.hid (drop_at hx)
      have HT := Lib.hid ht
      have HTL := Lib.hid ht.2.1
      have hn2 := ht.1
      have hki : (k : Int) < (nb : Int) := by omega
      clear hx h0 h1 h3 h4 h5 h6 h7 ht hcap x2
      go_wp2
      obtain ⟨U, rfl⟩ : ∃ U, U = wr := ⟨_, rfl⟩
      go_loopw [6] (fun i wj => ∃ j, j ≤ n ∧ i = .int .i64 (j : Int) ∧ Ext U wj ∧ (v ∈ bodyVars r.body ↔ v ∈ termVars (l.atom.terms.drop j) ∨ v ∈ bodyVars (r.body.drop (k + 1)))) (fun i _ => n - (intOf i).toNat)
      case atStart => exact ⟨0, by omega, rfl, Below.refl _ _, by rw [HQ.out, HX.out, bodyVars_cons]; simp⟩
      case round =>
        obtain ⟨j, hj, rfl, hb2, hq2⟩ := hrel
        have z2 := keep hb2 y2
        have g2 := keep hb2 h2
        have HQ2 := Lib.hid hq2
        clear hq2
        by_cases hge2 : n ≤ j
        · go_wp2
          go_roundw
          case rel =>
            refine ⟨k + 1, by omega, by go_num, ext_trans HE.out hb2, ?_⟩
            rw [HQ2.out, List.drop_of_length_le (by rw [HTL.out]; omega)]
            simp [termVars]
          case measure => simp [intOf]; omega
        · have hlt2 : j < n := by omega
          obtain ⟨t, bu, offu, hxu, rfl, hu1, hu2, hu3⟩ := (HT.out.keep hb2).2.at hlt2
          have HXU := Lib.hid (drop_at hxu)
          have hji : (j : Int) < (n : Int) := by omega
          obtain ⟨c1, e1⟩ : ∃ b, (t.kind == 1) = b := ⟨_, rfl⟩
          obtain ⟨c2, e2⟩ : ∃ b, (t.text.toList == v.toList) = b := ⟨_, rfl⟩
          have E2 := Lib.hid ((beq_bytes t.text v).symm.trans e2)
          have E1 := Lib.hid e1
          clear hxu
          cases c1 with
          | false =>
            go_wp2
            go_roundw
            case rel => exact ⟨j + 1, by omega, by go_num, ext_alloc hb2 _, by rw [HQ2.out, HXU.out, termVars_cons]; have := E1.out; simp at this; simp [this]⟩
            case measure => simp [intOf]; omega
          | true =>
            cases c2 with
            | false =>
              go_wp2
              go_roundw
              case rel => exact ⟨j + 1, by omega, by go_num, ext_alloc hb2 _, by rw [HQ2.out, HXU.out, termVars_cons]; have := E2.out; simp at this; simp [this]⟩
              case measure => simp [intOf]; omega
            | true =>
              go_wp2
              go_returns
              refine ⟨ret_bool (a := true) (b := R) ?_, ext_trans hb0 (ext_trans HE.out (ext_alloc hb2 _))⟩
              rw [HRR.out, decide_eq_true]
              rw [HQ2.out, HXU.out, termVars_cons]
              exact .inl (.inl ⟨by simpa using E1.out, by simpa using E2.out⟩)
set_option maxRecDepth 20000 in
theorem c_dPlain (r : Rule) (ah : Option Addr) (nh ch : Nat) (ab : Option Addr) (nb cb : Nat) (w : World) (hr : RuleV w r ah nh ch ab nb cb) :
    Calls Try.prog 20 #[.agg #[.string r.head.pred, .slice ah nh ch, .slice ab nb cb]] w fun e w' => e = .returned (.bool (plain r)) ∧ Ext w w' := by
  obtain ⟨R, hR⟩ : ∃ R, R = plain r := ⟨_, rfl⟩
  rw [← hR]
  have HRR := Lib.hid hR
  have HL := Lib.hid hr.body.2.1
  have HLH := Lib.hid hr.terms.2.1
  have hn := hr.body.1
  have hnh := hr.terms.1
  have HR := Lib.hid hr
  clear hR hr
  obtain ⟨M, hM⟩ : ∃ M, mayRule r = M := ⟨_, rfl⟩
  have HM := Lib.hid hM
  clear hM
  go_enter Try.func20, Try.ntmps20
  go_upto_region 1 with (fail)
  refine wp_gen (fun W hW => ?_)
  have hb0 : Ext w W := by rw [hW]; go_grown
  have x0 : W.cell? ⟨w.heap.size, 0, none⟩ = some (.string r.head.pred) := by rw [hW]; go_simp
  have x1 : W.cell? ⟨w.heap.size, 1, none⟩ = some (.slice ah nh ch) := by rw [hW]; go_simp
  have x2 : W.cell? ⟨w.heap.size, 2, none⟩ = some (.slice ab nb cb) := by rw [hW]; go_simp
  clear hW
  by_cases h0 : M = 0
  · subst h0
    go_upto_region 3 with (go_at_call 43; (with_reducible refine (c_dRule r _ _ _ _ _ _ _ (HR.out.keep hb0)).mono ?_); rw [HM.out]; rintro e w1 ⟨rfl, h1⟩; have x0 := keep h1 x0; have x1 := keep h1 x1; have x2 := keep h1 x2)
    have hb1 := ext_trans hb0 h1
    have HB := Lib.hid (HR.out.body.keep hb1)
    have HH := Lib.hid (HR.out.terms.keep hb1)
    have HR1 := Lib.hid (HR.out.keep hb1)
    clear h1 hb0
    go_wp2
    go_loopw [3] (fun i wj => ∃ k, k ≤ nb ∧ i = .int .i64 (k : Int) ∧ Ext w1 wj ∧ (r.body.all (fun l => decide (l.kind = 1)) = (r.body.drop k).all (fun l => decide (l.kind = 1)))) (fun i _ => nb - (intOf i).toNat)
    case atStart => exact ⟨0, by omega, rfl, Below.refl _ _, by simp⟩
    case round =>
      obtain ⟨k, hk, rfl, hb, hq⟩ := hrel
      have y0 := keep hb x0
      have y1 := keep hb x1
      have y2 := keep hb x2
      have HQ := Lib.hid hq
      have HE := Lib.hid hb
      clear hq
      by_cases hge : nb ≤ k
      · obtain rfl : nb = k := by omega
        have HALL : Hid (r.body.all (fun l => decide (l.kind = 1)) = true) := by
          show _ = _
          rw [HQ.out, List.drop_of_length_le (by rw [HL.out]; omega)]
          rfl
        go_wp2
        obtain ⟨U, rfl⟩ : ∃ U, U = wr := ⟨_, rfl⟩
        go_loopw [4] (fun i wj => ∃ j, j ≤ nh ∧ i = .int .i64 (j : Int) ∧ Ext U wj ∧ (r.head.terms.any (badT (bodyVars r.body)) = (r.head.terms.drop j).any (badT (bodyVars r.body)))) (fun i _ => nh - (intOf i).toNat)
        case atStart => exact ⟨0, by omega, rfl, Below.refl _ _, by simp⟩
        case round =>
          obtain ⟨j, hj, rfl, hb2, hq2⟩ := hrel
          have z0 := keep hb2 y0
          have z1 := keep hb2 y1
          have z2 := keep hb2 y2
          have HQ2 := Lib.hid hq2
          have HE2 := Lib.hid (ext_trans HE.out hb2)
          clear hq2
          by_cases hge2 : nh ≤ j
          · go_wp2
            go_returns
            refine ⟨ret_bool (a := true) (b := R) ?_, ext_trans hb1 HE2.out⟩
            rw [HRR.out]
            unfold plain
            rw [HM.out, HALL.out, HQ2.out, List.drop_of_length_le (by rw [HLH.out]; omega)]
            rfl
          · have hlt2 : j < nh := by omega
            obtain ⟨t, bu, offu, hxu, rfl, hu1, hu2, hu3⟩ := (HH.out.keep HE2.out).2.at hlt2
            have HXU := Lib.hid (drop_at hxu)
            have hji : (j : Int) < (nh : Int) := by omega
            have HRW : Hid (∀ o, RuleV (wr.alloc o) r (some ⟨bu, offu, none⟩) nh ch ab nb cb) := fun o => HR1.out.keep (ext_alloc HE2.out o)
            have q0 : ∀ o, (wr.alloc o).cell? ⟨w.heap.size, 0, none⟩ = some (.string r.head.pred) := fun o => keep (ext_alloc (Below.refl _ _) o) z0
            have q1 : ∀ o, (wr.alloc o).cell? ⟨w.heap.size, 1, none⟩ = some (.slice (some ⟨bu, offu, none⟩) nh ch) := fun o => keep (ext_alloc (Below.refl _ _) o) z1
            have q2 : ∀ o, (wr.alloc o).cell? ⟨w.heap.size, 2, none⟩ = some (.slice ab nb cb) := fun o => keep (ext_alloc (Below.refl _ _) o) z2
            obtain ⟨V, hV⟩ : ∃ b, decide (t.text ∈ bodyVars r.body) = b := ⟨_, rfl⟩
            have HV := Lib.hid hV
            clear hxu hV
            have fin : ∀ b, badT (bodyVars r.body) t = b → b = true → false = R := by
              intro b hb3 hb4
              rw [HRR.out]
              unfold plain
              rw [HQ2.out, HXU.out, List.any_cons, hb3, hb4]
              simp
            have FIN := Lib.hid fin
            clear fin
            have next : badT (bodyVars r.body) t = false → r.head.terms.any (badT (bodyVars r.body)) = (r.head.terms.drop (j + 1)).any (badT (bodyVars r.body)) := by
              intro hb3
              rw [HQ2.out, HXU.out, List.any_cons, hb3, Bool.false_or]
            have NEXT := Lib.hid next
            clear next
            by_cases k1 : t.kind = 1
            · have k1' : (t.kind == 1) = true := by simpa using k1
              have k1n : (t.kind != 1) = false := by simpa using k1
              have K1 := Lib.hid k1
              clear k1
              cases V with
              | true =>
                go_wp2_with (go_at_call 46; (with_reducible refine (c_stands r t.text _ _ _ _ _ _ _ (HRW.out _)).mono ?_); rw [HV.out]; rintro e w8 ⟨rfl, h8⟩)
                go_roundw
                case rel => exact ⟨j + 1, by omega, by go_num, ext_after h8 (ext_alloc hb2 _), NEXT.out (by unfold badT; rw [HV.out]; simp [K1.out])⟩
                case measure => simp [intOf]; omega
              | false =>
                go_wp2_with (go_at_call 46; (with_reducible refine (c_stands r t.text _ _ _ _ _ _ _ (HRW.out _)).mono ?_); rw [HV.out]; rintro e w8 ⟨rfl, h8⟩)
                go_returns
                exact ⟨ret_bool (a := false) (b := R) (FIN.out _ rfl (by unfold badT; rw [HV.out]; simp [K1.out])), ext_trans hb1 (ext_after h8 (ext_alloc HE2.out _))⟩
            · have k1' : (t.kind == 1) = false := by simpa using k1
              have k1n : (t.kind != 1) = true := by simpa using k1
              by_cases k3 : t.kind = 3
              · have k3' : (t.kind != 3) = false := by simpa using k3
                go_wp2
                go_roundw
                case rel => exact ⟨j + 1, by omega, by go_num, ext_alloc hb2 _, NEXT.out (by unfold badT; simp [k3])⟩
                case measure => simp [intOf]; omega
              · have k3' : (t.kind != 3) = true := by simpa using k3
                go_wp2
                go_returns
                exact ⟨ret_bool (a := false) (b := R) (FIN.out _ rfl (by unfold badT; simp [k1, k3])), ext_trans hb1 (ext_alloc HE2.out _)⟩
      · have hlt : k < nb := by omega
        obtain ⟨l, bt_, off, hx, rfl, a, n, cap, h0, h1, h2, h3, h4, h5, h6, h7, ht, hcap, _⟩ := (HB.out.keep hb).2.at hlt
        have HX := Lib.hid (drop_at hx)
        have hki : (k : Int) < (nb : Int) := by omega
        clear hx
        by_cases k1 : l.kind = 1
        · have k1n : (l.kind != 1) = false := by simpa using k1
          go_wp2
          go_roundw
          case rel => exact ⟨k + 1, by omega, by go_num, hb, by rw [HQ.out, HX.out, List.all_cons]; simp [k1]⟩
          case measure => simp [intOf]; omega
        · have k1n : (l.kind != 1) = true := by simpa using k1
          go_wp2
          go_returns
          refine ⟨ret_bool (a := false) (b := R) ?_, ext_trans hb1 hb⟩
          rw [HRR.out]
          unfold plain
          rw [HQ.out, HX.out, List.all_cons]
          simp [k1]
  · have h0' : (M != 0) = true := by simpa using h0
    go_wp2_with (go_at_call 43; (with_reducible refine (c_dRule r _ _ _ _ _ _ _ (HR.out.keep hb0)).mono ?_); rw [HM.out]; rintro e w1 ⟨rfl, h1⟩)
    go_returns
    refine ⟨ret_bool (a := false) (b := R) ?_, ext_trans hb0 h1⟩
    rw [HRR.out]
    unfold plain
    rw [HM.out]
    simp [h0]
end Go.Proofs.Ytcphjfggjjonpaa
