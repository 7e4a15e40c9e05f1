/- lint.live, in plain words: what can have facts. The walk of lint.live: what can have facts. The walks of lint's looks Empty and Unasked. -/
import Derived.Test.YtlalgaioiapjmaaGreatDoorG5
import Derived.Test.YtlalgaioiapjmaaGreatDoorG12
import Derived.Test.YtlalgaioiapjmaaGreatDoorG24
import Derived.Test.YtlalgaioiapjmaaGreatDoorG27
namespace Go.Proofs.YtlalgaioiapjmaaGreatDoor
open K (Rule)
/-- A rule that brings something new. -/
def canR (C : List ByteArray) (r : Rule) : Bool := !decide (r.head.pred ∈ C) && r.body.all fun l => !decide (l.kind = 1) || decide (l.atom.pred ∈ C)
def liveN (rs : List Rule) (C : List ByteArray) : Nat := (rs.filter fun r => !decide (r.head.pred ∈ C)).length
def liveF (rs : List Rule) : Nat → List ByteArray → List ByteArray
  | 0, C => C
  | f + 1, C => match rs.find? (canR C) with
    | none => C
    | some r => liveF rs f (C ++ [r.head.pred])
def liveC (rs : List Rule) (C : List ByteArray) : List ByteArray := liveF rs (liveN rs C) C
def liveV (rs : List Rule) (given : List ByteArray) : List ByteArray := liveC rs given
theorem filter_le {α : Type} {p q : α → Bool} (hpq : ∀ x, q x = true → p x = true) : ∀ l : List α, (l.filter q).length ≤ (l.filter p).length
  | [] => by simp
  | x :: l => by
    have ih := filter_le hpq l
    by_cases hq : q x = true
    · rw [List.filter_cons_of_pos hq, List.filter_cons_of_pos (hpq x hq), List.length_cons, List.length_cons]
      omega
    · rw [List.filter_cons_of_neg hq]
      by_cases hp : p x = true
      · rw [List.filter_cons_of_pos hp, List.length_cons]
        omega
      · rw [List.filter_cons_of_neg hp]
        exact ih
theorem filter_lt {α : Type} {p q : α → Bool} (hpq : ∀ x, q x = true → p x = true) {r : α} (hp : p r = true) (hq : ¬ q r = true) : ∀ l : List α, r ∈ l → (l.filter q).length < (l.filter p).length
  | [], h => by cases h
  | x :: l, h => by
    rcases List.mem_cons.1 h with rfl | h
    · have := filter_le hpq l
      rw [List.filter_cons_of_neg hq, List.filter_cons_of_pos hp, List.length_cons]
      omega
    · have ih := filter_lt hpq hp hq l h
      by_cases hqx : q x = true
      · rw [List.filter_cons_of_pos hqx, List.filter_cons_of_pos (hpq x hqx), List.length_cons, List.length_cons]
        omega
      · rw [List.filter_cons_of_neg hqx]
        by_cases hpx : p x = true
        · rw [List.filter_cons_of_pos hpx, List.length_cons]
          omega
        · rw [List.filter_cons_of_neg hpx]
          exact ih
theorem liveN_lt {rs : List Rule} {C : List ByteArray} {r : Rule} (h : rs.find? (canR C) = some r) : liveN rs (C ++ [r.head.pred]) < liveN rs C := by
  have hm := List.mem_of_find?_eq_some h
  have hc := List.find?_some h
  have hn : r.head.pred ∉ C := by
    intro hx
    simp [canR, hx] at hc
  exact filter_lt (fun x hx => by simp at hx ⊢; exact hx.1) (by simp [hn]) (by simp) rs hm
theorem liveC_none {rs : List Rule} {C : List ByteArray} (h : rs.find? (canR C) = none) : liveC rs C = C := by
  unfold liveC
  cases liveN rs C with
  | zero => rfl
  | succ f =>
    unfold liveF
    rw [h]
theorem liveF_enough : ∀ (f : Nat) (rs : List Rule) (C : List ByteArray), liveN rs C ≤ f → liveF rs f C = liveC rs C
  | 0, rs, C, h => by
    unfold liveC
    rw [Nat.le_zero.1 h]
  | f + 1, rs, C, h => by
    cases hf : rs.find? (canR C) with
    | none =>
      rw [liveC_none hf]
      unfold liveF
      rw [hf]
    | some r =>
      have hl := liveN_lt hf
      have e1 : liveF rs (f + 1) C = liveF rs f (C ++ [r.head.pred]) := by
        conv => lhs; unfold liveF
        rw [hf]
      rw [e1, liveF_enough f rs _ (by omega)]
      obtain ⟨k, hk⟩ : ∃ k, liveN rs C = k + 1 := ⟨liveN rs C - 1, by omega⟩
      have e2 : liveC rs C = liveF rs k (C ++ [r.head.pred]) := by
        unfold liveC
        rw [hk]
        conv => lhs; unfold liveF
        rw [hf]
      rw [e2, liveF_enough k rs _ (by omega)]
termination_by f _ _ => f
decreasing_by all_goals omega
theorem liveC_some {rs : List Rule} {C : List ByteArray} {r : Rule} (h : rs.find? (canR C) = some r) : liveC rs C = liveC rs (C ++ [r.head.pred]) := by
  have hl := liveN_lt h
  obtain ⟨k, hk⟩ : ∃ k, liveN rs C = k + 1 := ⟨liveN rs C - 1, by omega⟩
  have e2 : liveC rs C = liveF rs k (C ++ [r.head.pred]) := by
    unfold liveC
    rw [hk]
    conv => lhs; unfold liveF
    rw [h]
  rw [e2, liveF_enough k rs _ (by omega)]
theorem find_at {rs : List Rule} {q : Rule → Bool} {k : Nat} {r : Rule} (hr : rs[k]? = some r) (hq : q r = true) (hp : ∀ x ∈ rs.take k, q x = false) : rs.find? q = some r := by
  induction rs generalizing k with
  | nil => simp at hr
  | cons a rs ih =>
    cases k with
    | zero => simp at hr; subst hr; simp [hq]
    | succ k =>
      have ha : q a = false := hp a (by simp)
      rw [List.find?_cons, ha]
      exact ih (by simpa using hr) (fun x hx => hp x (by simp [hx]))
end Go.Proofs.YtlalgaioiapjmaaGreatDoor
namespace Go.Proofs.YtlalgaioiapjmaaGreatDoor
open Go.ChangeShapes Go.WideShapes Go.ChangeAt Go.RowKit
open K (Rule SMap stm MapSt setMap)
/-- The given names, marked one by one. -/
def LivePost (rs : List Rule) (given : List ByteArray) (w : World) (e : Ending) (w' : World) : Prop := ∃ mb, e = .returned (.map (some mb)) ∧ w.heap.size ≤ mb ∧ SMap w' mb (stm (liveV rs given)) ∧ Ext w w'
set_option maxRecDepth 100000 in
set_option maxHeartbeats 4000000 in
theorem c_live (rs : List Rule) (given : List ByteArray) (a : Option Addr) (n c : Nat) (ga : Option Addr) (gn gc : Nat) (w : World) (h : RulesAt w a n rs) (hg : K.StrsAt w ga gn given) :
    Calls Tryz.prog 23 #[.agg #[.slice a n c], .slice ga gn gc] w (LivePost rs given w) := by
  have H := Lib.hid h
  have HG := Lib.hid hg
  have HL := Lib.hid h.2.1
  have HGL := Lib.hid hg.2.1
  have hn := h.1
  have hgn := hg.1
  have hmm := @run_makeMap Tryz.prog
  clear h hg
  go_enter Tryz.func23, Tryz.ntmps23
  go_wp2
  go_step3
  go_upto_block 0 with (fail)
  refine wp_gen (fun W hW => ?_)
  have E0 : Ext w W := by rw [hW]; exact ext_alloc (ext_alloc (Below.refl _ _) _) _
  have p0 : W.cell? ⟨w.heap.size, 0, none⟩ = some (.slice a n c) := by rw [hW]; go_simp
  have m0 : MapSt w W W (w.heap.size + 1) (stm []) := by
    refine ⟨E0, K.gb_refl _ _, ?_⟩
    rw [hW]
    have := K.SMap.made (w.alloc (.cells #[.slice a n c] 24))
    rw [World.size_alloc] at this
    exact this
  have hwm : w.heap.size ≤ w.heap.size + 1 := Nat.le_succ _
  have hne : w.heap.size ≠ w.heap.size + 1 := by omega
  obtain ⟨pb, hpb⟩ : ∃ pb, w.heap.size = pb := ⟨_, rfl⟩
  obtain ⟨mb, hmb⟩ : ∃ mb, w.heap.size + 1 = mb := ⟨_, rfl⟩
  rw [hmb] at m0 hwm hne ⊢
  rw [hpb] at p0 hne ⊢
  have HM0 := Lib.hid m0
  have HE0 := Lib.hid E0
  have hgl : given.length = gn := HGL.out
  have HWM : Hid (w.heap.size ≤ mb) := hwm
  clear hW m0 E0 hmm hmb hpb hgl hwm
  go_cut [] (fun wc => MapSt w W wc mb (stm given))
  case first =>
    go_wp2
    go_loopw [15] (fun v wr => ∃ k : Nat, k ≤ gn ∧ v = .int .i64 (k : Int) ∧ MapSt w W wr mb (stm (given.take k))) (fun v _ => gn - (intOf v).toNat)
    case atStart => exact ⟨0, Nat.zero_le _, rfl, by simpa using HM0.out⟩
    case round =>
      obtain ⟨k, hk, rfl, hm⟩ := hrel
      have HM := Lib.hid hm
      by_cases hlt : ¬ k < gn
      · have hki : ¬ (k : Int) < (gn : Int) := by omega
        clear hm
        go_wp2
        go_meet
        have := HM.out
        rw [List.take_of_length_le (by have := HGL.out; omega)] at this
        exact this
      · have hlt : k < gn := by omega
        have hki : (k : Int) < (gn : Int) := by omega
        obtain ⟨x, sb, so, hx, rfl, hsc⟩ := (HG.out.keep hm.old).at hlt
        obtain ⟨o, hrun, hsm⟩ := K.run_upd (P := Tryz.prog) (t := 70) hm.map Tryz.underlying70 Tryz.underlying9 x (.bool true)
        have ST : Hid (MapSt w W (setMap wr mb o) mb (stm (given.take (k + 1)))) := by
          show MapSt _ _ _ _ _
          rw [take_at hx, ← K.stm_upd]
          exact hm.turn HWM.out hsm
        have HLT := Lib.hid hlt
        clear hm hsm hx
        go_wp2
        go_roundw
        case rel => exact ⟨k + 1, HLT.out, by go_num, ST.out⟩
        case measure => have := HLT.out; simp [intOf]; omega
  have HM1 := Lib.hid hcut
  clear hcut HM0
  go_wp2
  go_step3
  go_wp2
  go_loopg [4] (liveN rs given + 1) (fun g v4 wr => ∃ C, v4 = .map none ∧ MapSt w W wr mb (stm C) ∧ liveC rs C = liveV rs given ∧ liveN rs C < g)
  case atStart => exact ⟨given, rfl, HM1.out, rfl, Nat.lt_succ_self _⟩
  case round =>
    obtain ⟨C, rfl, hm, hC, hg⟩ := hrel
    have HM := Lib.hid hm
    have HC := Lib.hid hC
    have p1 := hm.cell p0 hne
    clear hm hC
    obtain ⟨WA, rfl⟩ : ∃ WA, WA = wr := ⟨_, rfl⟩
    go_wp2
    go_step3
    go_wp2
    go_step3
    go_wp2
    go_loopw [25] (fun v w2 => ∃ k : Nat, k ≤ n ∧ v = .int .i64 (k : Int) ∧ Ext WA w2 ∧ ∀ x ∈ rs.take k, canR C x = false) (fun v _ => n - (intOf v).toNat)
    case atStart => exact ⟨0, Nat.zero_le _, rfl, Below.refl _ _, by simp⟩
    case round =>
      obtain ⟨k, hk, rfl, hE, hno⟩ := hrel
      have HM2 := Lib.hid (HM.out.grow hE)
      have HNO := Lib.hid hno
      have HE := Lib.hid hE
      clear hno
      by_cases hlt : ¬ k < n
      · have hki : ¬ (k : Int) < (n : Int) := by omega
        have FIN : Hid (LivePost rs given w (.returned (.map (some mb))) wr) := by
          refine ⟨mb, rfl, HWM.out, ?_, HM2.out.old⟩
          rw [← HC.out, liveC_none]
          · exact HM2.out.map
          · rw [List.find?_eq_none]
            intro x hx
            have := HNO.out x (by rw [List.take_of_length_le (by have := HL.out; omega)]; exact hx)
            simp [this]
        clear hE
        go_wp2
        go_returns
        exact FIN.out
      · have hlt : k < n := by omega
        have hki : (k : Int) < (n : Int) := by omega
        obtain ⟨r, b, off, hrk, rfl, ah, nh, ch, ab, nb, cb, z0, z1, z2, hr⟩ := (H.out.keep HM2.out.old).2.at hlt
        have HRK := Lib.hid hrk
        have HR := Lib.hid hr
        have HLT := Lib.hid hlt
        have hp := hr.pred
        clear hrk hr hE
        have EA : ∀ o : Obj, Ext wr (wr.alloc o) := fun o => ext_alloc (Below.refl _ _) _
        go_upto_region 10 with (fail)
        refine wp_gen (fun W3 hW3 => ?_)
        have E3 : Ext wr W3 := by rw [hW3]; exact EA _
        have B3 : Blk W3 wr.heap.size 50 [.string r.head.pred, .slice ah nh ch, .slice ab nb cb] := by
          rw [hW3]
          exact Blk.new wr [.string r.head.pred, .slice ah nh ch, .slice ab nb cb] 50
        obtain ⟨rb, hrb⟩ : ∃ rb, wr.heap.size = rb := ⟨_, rfl⟩
        rw [hrb] at B3 ⊢
        have y0 := B3.cell (i := 0) rfl
        have y2 := B3.cell (i := 2) rfl
        have HB3 := Lib.hid B3
        have HM3 := Lib.hid (HM2.out.grow E3)
        have HR3 := Lib.hid (HR.out.keep E3)
        have lk := K.run_look (P := Tryz.prog) (t := 70) HM3.out.map Tryz.underlying70 Tryz.underlying9 (K.zero_bool _) r.head.pred false
        simp only [K.stm_get, Bool.false_eq_true, if_false] at lk
        obtain ⟨q, hq⟩ : ∃ q, decide (r.head.pred ∈ C) = q := ⟨_, rfl⟩
        rw [hq] at lk
        have HQ := Lib.hid hq
        have HNXT : Hid (canR C r = false → ∀ x ∈ rs.take (k + 1), canR C x = false) := fun h x hx => by
          rw [take_at HRK.out] at hx
          rcases List.mem_append.1 hx with hx | hx
          · exact HNO.out x hx
          · rw [List.mem_singleton.1 hx]; exact h
        have HE3 := Lib.hid (ext_trans HE.out E3)
        have hnb := HR3.out.body.1
        have hnbl := Lib.hid HR3.out.body.2.1
        clear hW3 E3 B3 hrb hq z0 z1 z2 EA
        cases q with
        | true =>
          have CN : Hid (canR C r = false) := by
            show _ = _
            unfold canR
            rw [HQ.out]
            rfl
          go_wp2
          refine ⟨⟨k + 1, HLT.out, by go_num, HE3.out, HNXT.out CN.out⟩, ?_⟩
          have := HLT.out
          simp [intOf]
          omega
        | false =>
          go_wp2
          go_loopw [37] (fun v w3 => ∃ j : Nat, j ≤ nb ∧ v = .int .i64 (j : Int) ∧ Ext W3 w3 ∧ ∀ l ∈ r.body.take j, (!decide (l.kind = 1) || decide (l.atom.pred ∈ C)) = true) (fun v _ => nb - (intOf v).toNat)
          case atStart => exact ⟨0, Nat.zero_le _, rfl, Below.refl _ _, by simp⟩
          case round =>
            obtain ⟨j, hj, rfl, hE4, hall⟩ := hrel
            have HM4 := Lib.hid (HM3.out.grow hE4)
            have HALL := Lib.hid hall
            have HE4 := Lib.hid hE4
            have y0r := keep hE4 y0
            clear hall
            by_cases hjl : ¬ j < nb
            · have hji : ¬ (j : Int) < (nb : Int) := by omega
              have CN : Hid (canR C r = true) := by
                show _ = _
                have h1 := HALL.out
                rw [List.take_of_length_le (by have := hnbl.out; omega)] at h1
                unfold canR
                rw [HQ.out, Bool.not_false, Bool.true_and, List.all_eq_true]
                exact h1
              have FD : Hid (rs.find? (canR C) = some r) := find_at HRK.out CN.out HNO.out
              obtain ⟨o, hrun, hsm⟩ := K.run_upd (P := Tryz.prog) (t := 70) HM4.out.map Tryz.underlying70 Tryz.underlying9 r.head.pred (.bool true)
              have ST : Hid (MapSt w W (setMap wr mb o) mb (stm (C ++ [r.head.pred]))) := by
                show MapSt _ _ _ _ _
                rw [← K.stm_upd]
                exact HM4.out.turn HWM.out hsm
              have LT := liveN_lt FD.out
              have LC : Hid (liveC rs (C ++ [r.head.pred]) = liveV rs given) := by
                show _ = _
                rw [← liveC_some FD.out]
                exact HC.out
              have hg2 : liveN rs (C ++ [r.head.pred]) < gk - 1 := by omega
              have hg3 : gk - 1 < gk := by omega
              clear hsm hE4
              go_wp2
              go_roundg (gk - 1)
              case measure => exact hg3
              case rel => exact ⟨C ++ [r.head.pred], rfl, ST.out, LC.out, hg2⟩
            · have hjl : j < nb := by omega
              have hji : (j : Int) < (nb : Int) := by omega
              obtain ⟨l, lb, lo, ta, tn, tc, hlk, rfl, z0, z1, z2, z3, z4, z5, z6, z7, ht, _⟩ := lit_cells (HR3.out.body.keep hE4) hjl
              have HLK := Lib.hid hlk
              have HJL := Lib.hid hjl
              have EB : ∀ o : Obj, Ext wr (wr.alloc o) := fun o => ext_alloc (Below.refl _ _) _
              obtain ⟨b1, e1⟩ : ∃ b, (l.kind == 1) = b := ⟨_, rfl⟩
              obtain ⟨q2, hq2⟩ : ∃ q, decide (l.atom.pred ∈ C) = q := ⟨_, rfl⟩
              have lk2 := fun o => K.run_look (P := Tryz.prog) (t := 70) (HM4.out.alloc o).map Tryz.underlying70 Tryz.underlying9 (K.zero_bool _) l.atom.pred false
              simp only [K.stm_get, Bool.false_eq_true, if_false] at lk2
              rw [hq2] at lk2
              have LITQ : Hid ((!decide (l.kind = 1) || decide (l.atom.pred ∈ C)) = (!b1 || q2)) := by
                show _ = _
                rw [hq2, ← e1, Bool.beq_eq_decide_eq]
              have NXT : Hid ((!b1 || q2) = true → ∀ x ∈ r.body.take (j + 1), (!decide (x.kind = 1) || decide (x.atom.pred ∈ C)) = true) := fun h x hx => by
                rw [take_at HLK.out] at hx
                rcases List.mem_append.1 hx with hx | hx
                · exact HALL.out x hx
                · rw [List.mem_singleton.1 hx, LITQ.out]; exact h
              have E4A : ∀ o, Hid (Ext W3 (wr.alloc o)) := fun o => ext_trans HE4.out (EB o)
              clear hlk ht hE4 hq2
              cases b1 with
              | false =>
                go_wp2
                refine ⟨⟨j + 1, HJL.out, by go_num, (E4A _).out, NXT.out rfl⟩, ?_⟩
                have := HJL.out
                simp [intOf]
                omega
              | true =>
                cases q2 with
                | true =>
                  go_wp2
                  refine ⟨⟨j + 1, HJL.out, by go_num, (E4A _).out, NXT.out rfl⟩, ?_⟩
                  have := HJL.out
                  simp [intOf]
                  omega
                | false =>
                  have CN : Hid (canR C r = false) := by
                    show _ = _
                    unfold canR
                    rw [HQ.out, Bool.not_false, Bool.true_and, List.all_eq_false]
                    exact ⟨l, List.mem_of_getElem? HLK.out, by rw [LITQ.out]; decide⟩
                  go_wp2
                  refine ⟨⟨k + 1, HLT.out, by go_num, ext_trans HE3.out (E4A _).out, HNXT.out CN.out⟩, ?_⟩
                  have := HLT.out
                  simp [intOf]
                  omega
end Go.Proofs.YtlalgaioiapjmaaGreatDoor
namespace Go.Proofs.YtlalgaioiapjmaaGreatDoor
open Go.ChangeShapes Go.WideShapes Go.ChangeAt Go.RowKit
open K (Rule Term Atom TermsAt LitsAt RuleV Finding SMap stm)
def emptyB (can : List ByteArray) (l : K.Lit) : Bool := decide (l.kind = 1) && !decide (l.atom.pred ∈ can)
def look8 (can : List ByteArray) (r : Rule) : List Tell := tellO (r.body.findIdx? (emptyB can))
theorem c_ot3 (can : List ByteArray) (l : K.Lit) (a : Option Addr) (n c cb cm : Nat) (w : World) (y0 : w.cell? ⟨cb, 0, none⟩ = some (.map (some cm))) (hm : SMap w cm (stm can)) :
    Calls Tryz.prog 52 #[.agg #[.int .i64 l.kind, .string l.atom.pred, .slice a n c, .int .i64 l.op, .int .i64 l.left.kind, .string l.left.text, .int .i64 l.right.kind, .string l.right.text], .pointer (some ⟨cb, 0, none⟩)] w fun e w' => e = .returned (.bool (emptyB can l)) ∧ Ext w w' := by
  have EE : ∀ o : Obj, Ext w (w.alloc o) := fun o => ext_alloc (Below.refl _ _) _
  have y0 := fun o => keep (EE o) y0
  have lk := fun o => K.run_look (P := Tryz.prog) (t := 70) (hm.ext (EE o)) Tryz.underlying70 Tryz.underlying9 (K.zero_bool _) l.atom.pred false
  simp only [K.stm_get, Bool.false_eq_true, if_false] at lk
  obtain ⟨q, hq⟩ : ∃ q, decide (l.atom.pred ∈ can) = q := ⟨_, rfl⟩
  rw [hq] at lk
  obtain ⟨b1, e1⟩ : ∃ b, (l.kind == 1) = b := ⟨_, rfl⟩
  have RES : Hid (emptyB can l = (b1 && !q)) := by
    show _ = _
    unfold emptyB
    rw [hq, ← e1, Bool.beq_eq_decide_eq]
  clear hm hq
  go_enter Tryz.func52, Tryz.ntmps52
  cases b1
  all_goals
    go_wp2
    go_returns
    exact ⟨by rw [RES.out]; rfl, EE _⟩
set_option maxRecDepth 100000 in
set_option maxHeartbeats 4000000 in
theorem c_look8 {w0 W : World} {ob base lb nb : Nat} {kd : Int} {n : Nat} {F : List Finding} {C : Nat → Prop} (h : LookIn w0 ob base lb nb kd n F C W) (r : Rule) (ah : Option Addr) (nh ch : Nat) (ab : Option Addr) (bn cb : Nat) (hr : RuleV w0 r ah nh ch ab bn cb) (can : List ByteArray) (kb km : Nat) (y0 : W.cell? ⟨kb, 0, none⟩ = some (.map (some km))) (hm : SMap W km (stm can)) :
    Calls Tryz.prog 51 #[.int .i64 (n : Nat), .agg #[.string r.head.pred, .slice ah nh ch, .slice ab bn cb], .func (.func 18) #[] #[.pointer (some ⟨ob, 0, none⟩), .pointer (some ⟨lb, 0, none⟩), .pointer (some ⟨nb, 0, none⟩)], .pointer (some ⟨kb, 0, none⟩)] W (LookPost ob base C W F ((look8 can r).map (mkF kd n))) := by
  have H := Lib.hid h
  have HR := Lib.hid hr
  have HM := Lib.hid hm
  clear h hr hm
  go_enter Tryz.func51, Tryz.ntmps51
  go_upto_region 1 with (fail)
  refine wp_gen (fun W1 hW => ?_)
  obtain ⟨E0, x0, x1, x2⟩ : Ext W W1 ∧ W1.cell? ⟨W.heap.size, 0, none⟩ = some (.string r.head.pred) ∧ W1.cell? ⟨W.heap.size, 1, none⟩ = some (.slice ah nh ch) ∧ W1.cell? ⟨W.heap.size, 2, none⟩ = some (.slice ab bn cb) := by rw [hW]; exact box_rule _ _ _ _
  have H1 := Lib.hid (H.out.up E0)
  have HE := Lib.hid E0
  obtain ⟨rb, hrb⟩ : ∃ rb, W.heap.size = rb := ⟨_, rfl⟩
  rw [hrb] at x0 x1 x2 ⊢
  have hbb : LitsAt W1 ab bn r.body := HR.out.body.keep H1.out.ext
  have y1 := keep E0 y0
  have M1 := HM.out.ext E0
  have CI := Lib.hid (c_IxOt3 (emptyB can) r.body ab bn cb kb W1 hbb (fun l hl ta tn tc W' e ht => c_ot3 can l ta tn tc kb km W' (keep e y1) (M1.ext e)))
  have LK : Hid (look8 can r = tellO (r.body.findIdx? (emptyB can))) := (rfl : _ = _)
  clear hW E0 hrb hbb y0 y1 M1
  cases hf : r.body.findIdx? (emptyB can) with
  | none =>
    rw [hf] at CI LK
    have CI : Hid (Calls Tryz.prog 30 #[.slice ab bn cb, .func (.func 52) #[] #[.pointer (some ⟨kb, 0, none⟩)]] W1 fun e w' => e = .returned (.int .i64 (-1)) ∧ Ext W1 w') := CI
    clear hf
    go_wp2_with (go_at_call 30; (with_reducible refine CI.out.mono ?_); rintro e w2 ⟨rfl, hE⟩)
    go_end0
    rw [LK.out]
    exact LookPost.mk HE.out (by simpa [tellO] using (FS.start H1.out.fj).up hE)
  | some i =>
    rw [hf] at CI LK
    have CI : Hid (Calls Tryz.prog 30 #[.slice ab bn cb, .func (.func 52) #[] #[.pointer (some ⟨kb, 0, none⟩)]] W1 fun e w' => e = .returned (.int .i64 (i : Int)) ∧ Ext W1 w') := CI
    have hi : (0 : Int) ≤ (i : Int) := Int.natCast_nonneg i
    clear hf
    go_wp2_with (first | (go_at_call 30; (with_reducible refine CI.out.mono ?_); rintro e w2 ⟨rfl, hE⟩; have S2 := Lib.hid ((FS.start H1.out.fj).up hE); clear hE) | (go_at_call 18; (with_reducible refine (H1.out.tell (G := []) (by rw [List.append_nil]; exact S2.out) (by simp) i ⟨#[]⟩).mono ?_); rintro e w3 ⟨rfl, S3⟩) | fail)
    go_end0
    rw [LK.out]
    exact LookPost.mk HE.out S3
def look9 (wanted asked : List ByteArray) (r : Rule) : List Tell := if (!wanted.isEmpty && !decide (r.head.pred ∈ asked)) = true then [(0, r.head.pred)] else []
set_option maxRecDepth 100000 in
set_option maxHeartbeats 4000000 in
theorem c_look9 {w0 W : World} {ob base lb nb : Nat} {kd : Int} {n : Nat} {F : List Finding} {C : Nat → Prop} (h : LookIn w0 ob base lb nb kd n F C W) (r : Rule) (ah : Option Addr) (nh ch : Nat) (ab : Option Addr) (bn cb : Nat) (wanted asked : List ByteArray) (wa : Option Addr) (wn wc vb kb km : Nat) (z0 : W.cell? ⟨vb, 0, none⟩ = some (.slice wa wn wc)) (hwn : wanted.length = wn) (y0 : W.cell? ⟨kb, 0, none⟩ = some (.map (some km))) (hm : SMap W km (stm asked)) :
    Calls Tryz.prog 53 #[.int .i64 (n : Nat), .agg #[.string r.head.pred, .slice ah nh ch, .slice ab bn cb], .func (.func 18) #[] #[.pointer (some ⟨ob, 0, none⟩), .pointer (some ⟨lb, 0, none⟩), .pointer (some ⟨nb, 0, none⟩)], .pointer (some ⟨vb, 0, none⟩), .pointer (some ⟨kb, 0, none⟩)] W (LookPost ob base C W F ((look9 wanted asked r).map (mkF kd n))) := by
  have H := Lib.hid h
  have HM := Lib.hid hm
  obtain ⟨b1, e1⟩ : ∃ b, decide ((0 : Int) < (wn : Int)) = b := ⟨_, rfl⟩
  obtain ⟨q, hq⟩ : ∃ q, decide (r.head.pred ∈ asked) = q := ⟨_, rfl⟩
  have RES : Hid (look9 wanted asked r = if (b1 && !q) = true then [(0, r.head.pred)] else []) := by
    show _ = _
    have : (!wanted.isEmpty) = b1 := by
      rw [← e1, ← hwn]
      cases wanted with
      | nil => rfl
      | cons x l =>
        simp
    unfold look9
    rw [this, hq]
  clear h hm
  go_enter Tryz.func53, Tryz.ntmps53
  go_upto_region 1 with (fail)
  refine wp_gen (fun W1 hW => ?_)
  obtain ⟨E0, x0, x1, x2⟩ : Ext W W1 ∧ W1.cell? ⟨W.heap.size, 0, none⟩ = some (.string r.head.pred) ∧ W1.cell? ⟨W.heap.size, 1, none⟩ = some (.slice ah nh ch) ∧ W1.cell? ⟨W.heap.size, 2, none⟩ = some (.slice ab bn cb) := by rw [hW]; exact box_rule _ _ _ _
  have H1 := Lib.hid (H.out.up E0)
  have HE := Lib.hid E0
  have z0 := keep E0 z0
  have y0 := keep E0 y0
  have lk := K.run_look (P := Tryz.prog) (t := 70) (HM.out.ext E0) Tryz.underlying70 Tryz.underlying9 (K.zero_bool _) r.head.pred false
  simp only [K.stm_get, Bool.false_eq_true, if_false] at lk
  rw [hq] at lk
  have S1 := Lib.hid (FS.start H1.out.fj)
  obtain ⟨rb, hrb⟩ : ∃ rb, W.heap.size = rb := ⟨_, rfl⟩
  rw [hrb] at x0 x1 x2 ⊢
  clear hW E0 hrb hq hwn
  cases b1 with
  | false =>
    have e1 : ¬ (0 : Int) < (wn : Int) := of_decide_eq_false e1
    go_wp2
    go_end0
    rw [RES.out]
    exact LookPost.mk HE.out (by simpa using S1.out)
  | true =>
    have e1 : (0 : Int) < (wn : Int) := of_decide_eq_true e1
    cases q with
    | true =>
      go_wp2
      go_end0
      rw [RES.out]
      exact LookPost.mk HE.out (by simpa using S1.out)
    | false =>
      have T0 : Hid (Calls Tryz.prog 18 #[.int .i64 0, .string r.head.pred, .pointer (some ⟨ob, 0, none⟩), .pointer (some ⟨lb, 0, none⟩), .pointer (some ⟨nb, 0, none⟩)] W1 fun e w' => e = .returned (.tuple #[]) ∧ FS ob base C W1 (F ++ ([] ++ [⟨kd, n, 0, r.head.pred⟩])) w') := H1.out.tell (G := []) (by rw [List.append_nil]; exact S1.out) (by simp) 0 r.head.pred
      go_wp2_with (go_at_call 18; (with_reducible refine T0.out.mono ?_); rintro e w3 ⟨rfl, S3⟩)
      go_end0
      rw [RES.out]
      exact LookPost.mk HE.out S3
end Go.Proofs.YtlalgaioiapjmaaGreatDoor
