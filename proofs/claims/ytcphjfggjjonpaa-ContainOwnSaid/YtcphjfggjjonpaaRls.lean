/- Lists of rules in memory; the walks of syntax.May and of the document's. -/
import Derived.Test.YtcphjfggjjonpaaPrunL
import Derived.Test.YtcphjfggjjonpaaDMin
namespace Go.Proofs.Ytcphjfggjjonpaa
open Go.ChangeShapes Go.WideShapes Go.ChangeAt Go.RowKit
def ruleIn (w : World) (b o : Nat) (r : Rule) : Prop := ∃ (ah : Option Addr) (nh ch : Nat) (ab : Option Addr) (nb cb : Nat),
  w.cell? ⟨b, o, none⟩ = some (.string r.head.pred) ∧ w.cell? ⟨b, o + 1, none⟩ = some (.slice ah nh ch) ∧ w.cell? ⟨b, o + 2, none⟩ = some (.slice ab nb cb) ∧ RuleV w r ah nh ch ab nb cb
theorem ruleIn.keep {W w : World} (hb : Ext W w) {b o : Nat} {r : Rule} (h : ruleIn W b o r) : ruleIn w b o r := by
  obtain ⟨ah, nh, ch, ab, nb, cb, h0, h1, h2, h3⟩ := h
  exact ⟨ah, nh, ch, ab, nb, cb, Ytcphjfggjjonpaa.keep hb h0, Ytcphjfggjjonpaa.keep hb h1, Ytcphjfggjjonpaa.keep hb h2, h3.keep hb⟩
def RulesAt (w : World) (a : Option Addr) (n : Nat) (rs : List Rule) : Prop := n ≤ 2199023255488 ∧ SliceAt ruleIn 3 w a n rs
theorem RulesAt.keep {W w : World} (hb : Ext W w) {a : Option Addr} {n : Nat} {rs : List Rule} (h : RulesAt W a n rs) : RulesAt w a n rs := ⟨h.1, h.2.keep fun _ _ _ => ruleIn.keep hb⟩
theorem mayRules_step {rs : List Rule} {k : Nat} {r : Rule} (h : rs[k]? = some r) : mayRules (rs.drop k) = if mayRule r ≠ 0 then mayRule r else mayRules (rs.drop (k + 1)) := by
  rw [drop_at h, mayRules]
set_option maxRecDepth 20000 in
set_option maxHeartbeats 2000000 in
theorem c_MayP (rs : List Rule) (a : Option Addr) (n cap : Nat) (w : World) (hr : RulesAt w a n rs) :
    Calls Try.prog 48 #[.agg #[.slice a n cap]] w fun e w' => e = .returned (.int .i64 (mayProg rs)) ∧ Ext w w' := by
  have hn := hr.1
  have HL := Lib.hid hr.2.1
  have HR := Lib.hid hr
  clear hr
  obtain ⟨R, hR⟩ : ∃ R, R = mayProg rs := ⟨_, rfl⟩
  rw [← hR]
  have FIN := Lib.hid hR
  clear hR
  go_enter Try.func48, Try.ntmps48
  go_upto_region 1 with (fail)
  refine wp_gen (fun W hW => ?_)
  have hb0 : Ext w W := by rw [hW]; go_grown
  have x0 : W.cell? ⟨w.heap.size, 0, none⟩ = some (.slice a n cap) := by rw [hW]; go_simp
  clear hW
  by_cases hbig : 1024 < n
  · have t1 : decide ((1024 : Int) < (n : Int)) = true := by simp; omega
    go_wp2
    go_returns
    exact ⟨by rw [FIN.out, mayProg, if_pos (by rw [HL.out]; exact hbig)]; rfl, hb0⟩
  · have t1 : decide ((1024 : Int) < (n : Int)) = false := by simp; omega
    have HNB := Lib.hid hbig
    clear hbig
    go_wp2
    go_loopw [13] (fun v wj => ∃ k : Nat, k ≤ n ∧ v = .int .i64 (k : Int) ∧ Ext W wj ∧ R = mayRules (rs.drop k)) (fun v _ => n - (intOf v).toNat)
    case atStart => exact ⟨0, by omega, rfl, Below.refl _ _, by rw [FIN.out, mayProg, if_neg (by rw [HL.out]; exact HNB.out), List.drop_zero]⟩
    case round =>
      obtain ⟨k, hk, rfl, hE, hq⟩ := hrel
      have HQ := Lib.hid hq
      have HE := Lib.hid hE
      clear hq hE
      by_cases hge : n ≤ k
      · have hlt' : ¬ (k : Int) < (n : Int) := by omega
        go_wp2
        go_returns
        exact ⟨by rw [HQ.out, List.drop_of_length_le (by rw [HL.out]; exact hge)]; rfl, ext_trans hb0 HE.out⟩
      · obtain ⟨r, bt, off, hx, rfl, ah, nh, ch, ab, nb, cb, h0, h1, h2, hv⟩ := (HR.out.keep (ext_trans hb0 HE.out)).2.at (i := k) (by omega)
        have HX := Lib.hid (mayRules_step hx)
        have HV := Lib.hid hv
        have hki : (k : Int) < (n : Int) := by omega
        obtain ⟨m, hm⟩ : ∃ m, mayRule r = m := ⟨_, rfl⟩
        have HM := Lib.hid hm
        clear hx hv hm
        go_upto_region 6 with (fail)
        refine wp_gen (fun W2 hW2 => ?_)
        have e2 : Ext wr W2 := by rw [hW2]; exact ext_alloc (Below.refl _ _) _
        have y0 : W2.cell? ⟨wr.heap.size, 0, none⟩ = some (.string r.head.pred) := by rw [hW2]; go_simp
        have y1 : W2.cell? ⟨wr.heap.size, 1, none⟩ = some (.slice ah nh ch) := by rw [hW2]; go_simp
        have y2 : W2.cell? ⟨wr.heap.size, 2, none⟩ = some (.slice ab nb cb) := by rw [hW2]; go_simp
        clear hW2 h0 h1 h2
        by_cases h0 : m = 0
        · subst h0
          go_wp2_with (go_at_call 37; (with_reducible refine (c_MayRule r _ _ _ _ _ _ W2 (HV.out.keep e2)).mono ?_); rw [HM.out]; rintro e w3 ⟨rfl, h3⟩)
          go_roundw
          case rel => exact ⟨k + 1, by omega, by go_num, ext_trans HE.out (ext_trans e2 h3), by rw [HQ.out, HX.out, if_neg (by rw [HM.out]; simp)]⟩
          case measure => simp [intOf]; omega
        · have t2 : (m != 0) = true := by simpa using h0
          have H0 := Lib.hid h0
          clear h0
          go_wp2_with (go_at_call 37; (with_reducible refine (c_MayRule r _ _ _ _ _ _ W2 (HV.out.keep e2)).mono ?_); rw [HM.out]; rintro e w3 ⟨rfl, h3⟩)
          go_returns
          exact ⟨by rw [HQ.out, HX.out, if_pos (by rw [HM.out]; exact H0.out), HM.out]; rfl, ext_trans hb0 (ext_trans HE.out (ext_trans e2 h3))⟩
set_option maxRecDepth 20000 in
set_option maxHeartbeats 2000000 in
theorem c_dMayP (rs : List Rule) (a : Option Addr) (n cap : Nat) (w : World) (hr : RulesAt w a n rs) :
    Calls Try.prog 52 #[.agg #[.slice a n cap]] w fun e w' => e = .returned (.int .i64 (mayProg rs)) ∧ Ext w w' := by
  have hn := hr.1
  have HL := Lib.hid hr.2.1
  have HR := Lib.hid hr
  clear hr
  obtain ⟨R, hR⟩ : ∃ R, R = mayProg rs := ⟨_, rfl⟩
  rw [← hR]
  have FIN := Lib.hid hR
  clear hR
  go_enter Try.func52, Try.ntmps52
  go_upto_region 1 with (fail)
  refine wp_gen (fun W hW => ?_)
  have hb0 : Ext w W := by rw [hW]; go_grown
  have x0 : W.cell? ⟨w.heap.size, 0, none⟩ = some (.slice a n cap) := by rw [hW]; go_simp
  clear hW
  by_cases hbig : 1024 < n
  · have t1 : decide ((1024 : Int) < (n : Int)) = true := by simp; omega
    go_wp2
    go_returns
    exact ⟨by rw [FIN.out, mayProg, if_pos (by rw [HL.out]; exact hbig)]; rfl, hb0⟩
  · have t1 : decide ((1024 : Int) < (n : Int)) = false := by simp; omega
    have HNB := Lib.hid hbig
    clear hbig
    go_wp2
    go_loopw [3] (fun v wj => ∃ k : Nat, k ≤ n ∧ v = .int .i64 (k : Int) ∧ Ext W wj ∧ R = mayRules (rs.drop k)) (fun v _ => n - (intOf v).toNat)
    case atStart => exact ⟨0, by omega, rfl, Below.refl _ _, by rw [FIN.out, mayProg, if_neg (by rw [HL.out]; exact HNB.out), List.drop_zero]⟩
    case round =>
      obtain ⟨k, hk, rfl, hE, hq⟩ := hrel
      have HQ := Lib.hid hq
      have x0 := keep hE x0
      have HE := Lib.hid hE
      clear hq hE
      by_cases hge : n ≤ k
      · have hlt' : ¬ (k : Int) < (n : Int) := by omega
        go_wp2
        go_returns
        exact ⟨by rw [HQ.out, List.drop_of_length_le (by rw [HL.out]; exact hge)]; rfl, ext_trans hb0 HE.out⟩
      · obtain ⟨r, bt, off, hx, rfl, ah, nh, ch, ab, nb, cb, h0, h1, h2, hv⟩ := (HR.out.keep (ext_trans hb0 HE.out)).2.at (i := k) (by omega)
        have HX := Lib.hid (mayRules_step hx)
        have HV := Lib.hid hv
        have hki : (k : Int) < (n : Int) := by omega
        obtain ⟨m, hm⟩ : ∃ m, mayRule r = m := ⟨_, rfl⟩
        have HM := Lib.hid hm
        clear hx hv hm
        by_cases h0 : m = 0
        · subst h0
          go_wp2_with (go_at_call 43; (with_reducible refine (c_dRule r _ _ _ _ _ _ wr HV.out).mono ?_); rw [HM.out]; rintro e w3 ⟨rfl, h3⟩)
          go_roundw
          case rel => exact ⟨k + 1, by omega, by go_num, ext_trans HE.out h3, by rw [HQ.out, HX.out, if_neg (by rw [HM.out]; simp)]⟩
          case measure => simp [intOf]; omega
        · have t2 : (m != 0) = true := by simpa using h0
          have H0 := Lib.hid h0
          clear h0
          go_wp2_with (go_at_call 43; (with_reducible refine (c_dRule r _ _ _ _ _ _ wr HV.out).mono ?_); rw [HM.out]; rintro e w3 ⟨rfl, h3⟩)
          go_returns
          exact ⟨by rw [HQ.out, HX.out, if_pos (by rw [HM.out]; exact H0.out), HM.out]; rfl, ext_trans hb0 (ext_trans HE.out h3)⟩
end Go.Proofs.Ytcphjfggjjonpaa
