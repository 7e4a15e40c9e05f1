/- The walk of contain.Prune. -/
import Derived.Test.YtcphjfggjjonpaaNewQ
import Derived.Test.YtcphjfggjjonpaaWithin
namespace Go.Proofs.Ytcphjfggjjonpaa
open Go.ChangeShapes Go.WideShapes Go.ChangeAt Go.RowKit
/-- The rules that are left, in a row of one's own; their lists are as they were. -/
structure LeftSt (W0 : World) (qs : List RuleQ) (v : Value) (w : World) : Prop where
  old : Ext W0 w
  row : ∃ g c, v = .slice g qs.length c ∧ qs.length ≤ c ∧ w.ownsRow W0.heap.size 27 3 v qs.length (flatQ qs)
  ok : ∀ q ∈ qs, okQ W0 q
theorem erase_map (qs : List RuleQ) (i : Nat) : (qs.map (·.1)).eraseIdx i = (qs.eraseIdx i).map (·.1) := by
  induction qs generalizing i with
  | nil => rfl
  | cons q l ih =>
    cases i with
    | zero => rfl
    | succ i => simp [ih]
set_option maxRecDepth 100000 in
set_option maxHeartbeats 4000000 in
theorem c_Prune (rs : List Rule) (a : Option Addr) (n cap : Nat) (w : World) (hr : RulesAt w a n rs) (hc : capOk a n cap) :
    Calls Try.prog 25 #[.agg #[.slice a n cap]] w (PrunePost (prune rs) w) := by
  obtain ⟨qs0, hqs, hok, hcl⟩ := hr.parts
  have hn := hr.1
  have hl : qs0.length = n := by have h5 : (qs0.map (·.1)).length = qs0.length := List.length_map _; rw [hqs] at h5; have := hr.2.1; omega
  have HR := Lib.hid hr
  have HC := Lib.hid hc
  have HQS := Lib.hid hqs
  have HOK := Lib.hid hok
  have HCL := Lib.hid hcl
  have HLN := Lib.hid hl
  clear hr hc hqs hok hcl hl
  obtain ⟨R, hR⟩ : ∃ R, R = prune rs := ⟨_, rfl⟩
  rw [← hR]
  have FIN := Lib.hid hR
  clear hR
  go_enter Try.func25, Try.ntmps25
  go_upto_region 1 with (fail)
  refine wp_gen (fun W hW => ?_)
  have hb0 : Ext w W := by rw [hW]; go_grown
  have x0 : W.cell? ⟨w.heap.size, 0, none⟩ = some (.slice a n cap) := by rw [hW]; go_simp
  have z0 : W.cell? ⟨w.heap.size + 1, 0, none⟩ = some (.slice none 0 0) := by rw [hW]; go_simp
  have f0 : W.frozen? ⟨w.heap.size + 1, 0, none⟩ = false := by rw [hW]; go_simp
  have hz : w.heap.size + 1 < W.heap.size := World.block_lt_of_cell? _ _ z0
  clear hW
  obtain ⟨M, hM⟩ : ∃ M, mayProg rs = M := ⟨_, rfl⟩
  have HM := Lib.hid hM
  clear hM
  go_upto_region 2 with (go_at_call 48; (with_reducible refine (c_MayP rs a n cap W (HR.out.keep hb0)).mono ?_); rw [HM.out]; rintro e w1 ⟨rfl, h1⟩; have x0 := keep h1 x0; have z0 := keep h1 z0; have f0 := (h1.frozen (p := ⟨w.heap.size + 1, 0, none⟩) hz).trans f0)
  have hb1 := ext_trans hb0 h1
  have hz1 : w.heap.size + 1 < w1.heap.size := Nat.lt_of_lt_of_le hz h1.size
  by_cases h0 : M = 0
  · subst h0
    clear h1 hb0
    have zz0 := z0
    have ff0 := f0
    go_upto_region 5 with (go_at_call 49; (with_reducible refine (c_CloneR qs0 a n cap w1 HLN.out hn HC.out (fun ad e j u hu => keep hb1 (HCL.out ad e j u hu))).mono ?_); rintro e w2 ⟨a2, c2, rfl, own2, h2⟩; have z0 := keep h2 z0; have f0 := (h2.frozen (p := ⟨w.heap.size + 1, 0, none⟩) hz1).trans f0)
    have hc2 := (cap_of_own own2).1
    have ST : LeftSt w1 qs0 (.slice a2 n c2) w2 := ⟨h2, ⟨a2, c2, by rw [HLN.out], by rw [HLN.out]; exact hc2, by rw [HLN.out]; exact own2⟩, fun q hq => (HOK.out q hq).keep hb1⟩
    have HST := Lib.hid ST
    have Z0 := Lib.hid (show w1.cell? ⟨w.heap.size + 1, 0, none⟩ = some (.slice none 0 0) from zz0)
    have HQ0 : Hid (R = pruneGo n (qs0.map (·.1))) := by
      show _ = _
      rw [FIN.out, prune, if_neg (by rw [HM.out]; simp), HQS.out, ← HR.out.2.1]
    clear ST own2 h2 hc2
    go_wp2
    go_loopw [5, 6] (fun v5 v6 wj => ∃ (j : Int) (left : List RuleQ), v6 = .int .i64 j ∧ -1 ≤ j ∧ j < (left.length : Int) ∧ left.length ≤ n ∧ LeftSt w1 left v5 wj ∧ R = pruneGo (j + 1).toNat (left.map (·.1))) (fun _ v6 _ => (intOf v6 + 1).toNat)
    case atStart => exact ⟨(n : Int) - 1, qs0, rfl, by omega, by rw [HLN.out]; omega, by rw [HLN.out]; omega, HST.out, by rw [HQ0.out]; congr 1; omega⟩
    case round =>
      obtain ⟨j, left, rfl, hj1, hj2, hln, hL, hq⟩ := hrel
      clear HST
      have HL := Lib.hid hL
      have HQ := Lib.hid hq
      obtain ⟨g, c, rfl, hgc, hrow⟩ := hL.row
      have HROW := Lib.hid hrow
      have z1 := keep hL.old (show w1.cell? _ = _ from Z0.out)
      clear hL hq hrow
      by_cases hj : j < 0
      · obtain rfl : j = -1 := by omega
        have hq2 : R = (0, some (left.map (·.1))) := by rw [HQ.out]; rfl
        have HQ2 := Lib.hid hq2
        have LB : Hid (left.length ≤ 2199023255488) := Nat.le_trans hln hn
        have EW := Lib.hid (ext_trans hb1 HL.out.old)
        have OKL := Lib.hid (fun q hq => (HL.out.ok q hq).keep HL.out.old : ∀ q ∈ left, okQ wr q)
        clear hj1 hj2 hq2 HQ
        go_upto_region 20 with (fail)
        refine wp_gen (fun W3 hW3 => ?_)
        have e3 : Ext wr W3 := by rw [hW3]; exact ext_alloc (Below.refl _ _) _
        have o0 : W3.cell? ⟨wr.heap.size, 0, none⟩ = some (.slice none 0 0) := by rw [hW3]; go_simp
        have o1 : W3.frozen? ⟨wr.heap.size, 0, none⟩ = false := by rw [hW3]; go_simp
        have o2 : wr.heap.size < W3.heap.size := World.block_lt_of_cell? W3 ⟨wr.heap.size, 0, none⟩ o0
        have OS : OutSt wr wr.heap.size (left.map (·.1)) 0 W3 := ⟨e3, o2, o1, [], none, 0, o0, rfl, NewQs.nil _ _⟩
        have ZH := Lib.hid z1
        have FH : Hid (wr.frozen? ⟨w.heap.size + 1, 0, none⟩ = false) := (HL.out.old.frozen (p := ⟨w.heap.size + 1, 0, none⟩) hz1).trans ff0
        have HWR := Lib.hid (Nat.lt_of_lt_of_le hz1 HL.out.old.size)
        obtain ⟨bo, hbo⟩ : ∃ b, b = wr.heap.size := ⟨_, rfl⟩
        rw [← hbo] at OS ⊢
        have HBO := Lib.hid hbo
        have HOS := Lib.hid OS
        clear hW3 o0 o1 o2 OS hbo e3 z1
        obtain ⟨wo, rfl⟩ : ∃ wo : World, wo = wr := ⟨_, rfl⟩
        go_loopw [87] (fun v wj => ∃ k : Nat, k ≤ left.length ∧ v = .int .i64 (k : Int) ∧ OutSt wo bo (left.map (·.1)) k wj) (fun v _ => left.length - (intOf v).toNat)
        case atStart => exact ⟨0, by omega, rfl, HOS.out⟩
        case round =>
          obtain ⟨k, hk, rfl, hs⟩ := hrel
          by_cases hlt : k < left.length
          · obtain ⟨q, hq⟩ : ∃ q, left[k]? = some q := ⟨_, List.getElem?_eq_getElem hlt⟩
            have HS := Lib.hid hs
            obtain ⟨g, rfl, k0, k1, k2⟩ := row_cells (up_ext HROW.out hs.old) hq
            have OQ : Hid (RuleV wr q.1 q.2.1.1 q.2.1.2.1 q.2.1.2.2 q.2.2.1 q.2.2.2.1 q.2.2.2.2) := (OKL.out q (List.mem_of_getElem? hq)).keep hs.old
            have HQK := Lib.hid hq
            have hki : (k : Int) < (left.length : Int) := by omega
            clear hs hq
            go_upto_region 22 with (fail)
            refine wp_gen (fun W4 hW4 => ?_)
            have e4 : Ext wr W4 := by rw [hW4]; exact ext_alloc (Below.refl _ _) _
            have b0 : W4.cell? ⟨wr.heap.size, 0, none⟩ = some (.string q.1.head.pred) := by rw [hW4]; go_simp
            have b1 : W4.cell? ⟨wr.heap.size, 1, none⟩ = some (.slice q.2.1.1 q.2.1.2.1 q.2.1.2.2) := by rw [hW4]; go_simp
            have b2 : W4.cell? ⟨wr.heap.size, 2, none⟩ = some (.slice q.2.2.1 q.2.2.2.1 q.2.2.2.2) := by rw [hW4]; go_simp
            obtain ⟨hold, hsz, hfr, qs, a5, c5, hcell, hmap, hN⟩ := HS.out
            have hql : qs.length = k := by have h5 : (qs.map (·.1)).length = qs.length := List.length_map _; rw [hmap, List.length_take, List.length_map] at h5; omega
            have hd4 : Ext W4 W4.drew := ext_drew (Below.refl _ _)
            have ec := ext_trans e4 hd4
            have b0 := keep hd4 b0
            have b1 := keep hd4 b1
            have b2 := keep hd4 b2
            have cD := keep ec hcell
            have hsD : bo < W4.drew.heap.size := Nat.lt_of_lt_of_le hsz ec.size
            have fD : W4.drew.frozen? ⟨bo, 0, none⟩ = false := (ec.frozen (p := ⟨bo, 0, none⟩) hsz).trans hfr
            have OD : Hid (RuleV W4.drew q.1 q.2.1.1 q.2.1.2.1 q.2.1.2.2 q.2.2.1 q.2.2.2.1 q.2.2.2.2) := OQ.out.keep ec
            have HN4 := Lib.hid (hN.ext ec)
            have HOL := Lib.hid (ext_trans hold ec)
            have HMP := Lib.hid hmap
            have HTOP : Hid (∀ p ∈ qs, newQ W4.drew (bo + 1) (fun b => W4.drew.heap.size + 2 ≤ b) p) := fun p hp => NewR.top (HN4.out.rules p hp) (Nat.le_add_right _ _)
            have HBIG : Hid (qs.length + 1 ≤ 2199023255488) := by show _ ≤ _; have := LB.out; omega
            have HLO : Hid (bo + 1 ≤ W4.drew.heap.size + 2) := by show _ ≤ _; omega
            have HGET : Hid ((left.map (·.1))[qs.length]? = some q.1) := by show _ = _; rw [hql, List.getElem?_map, HQK.out]; rfl
            have HMQ : Hid (qs.map (·.1) = (left.map (·.1)).take qs.length) := by show _ = _; rw [hql]; exact hmap
            have HSD := Lib.hid hsD
            clear hW4 hold hsz hfr hcell hmap hN OQ e4 hd4 ec HS k0 k1 k2 hsD HQK
            obtain rfl := hql
            go_region_law (first
              | (refine step_push_rule w6 (bo + 1) _ qs.length qs (q.1, (a6, q.2.1.2.1, c6), (b6, q.2.2.2.1, d6)) ROW6.out HBIG.out L6.out (by rfl) _ _ (by rfl) (by rfl) (by rfl) ?_; intro g7 p7 w7 own7 q7; obtain ⟨k7, f7, st⟩ := OutSt.push (q := (q.1, (a6, q.2.1.2.1, c6), (b6, q.2.2.2.1, d6))) (ext_trans HOL.out H6.out) (Nat.le_of_eq HBO.out.symm) (Nat.lt_of_lt_of_le HSD.out H6.out.size) ((H6.out.frozen (p := ⟨bo, 0, none⟩) HSD.out).trans fD) x6 HMQ.out (HN4.out.ext H6.out) HGET.out HLO.out (fun p hp => NewR.ext (HTOP.out p hp) H6.out) N6.out own7 q7; have st := Lib.hid st)
              | (go_simp; go_wp2_with (go_at_call 51; (with_reducible refine (c_ownN q.1 _ _ _ _ _ _ W4.drew OD.out).mono ?_); rintro e w6 ⟨a6, c6, b6, d6, rfl, R6, N6, h6⟩; have x6 := keep h6 cD; have y6 : ∀ o, (w6.alloc o).cell? ⟨bo, 0, none⟩ = some (.slice a5 qs.length c5) := (fun o => keep (ext_alloc (Below.refl _ _) o) x6); have N6 := Lib.hid N6; have R6 := Lib.hid R6; have H6 := Lib.hid h6; have ROW6 := Lib.hid (up_ext HN4.out.row h6); have L6 : Hid (bo + 1 ≤ w6.heap.size) := Nat.le_trans HSD.out h6.size; clear h6))
              | fail)
            all_goals
              go_wp2
              go_roundw
              case rel => exact ⟨qs.length + 1, by omega, by go_num, st.out⟩
              case measure => simp [intOf]; omega
          · obtain rfl : k = left.length := by omega
            have HS := Lib.hid hs
            obtain ⟨hold, hsz, hfr, qs, a5, c5, hcell, hmap, hN⟩ := HS.out
            have hge : ¬ (left.length : Int) < (left.length : Int) := by omega
            have zr := keep hold ZH.out
            have fr := (hold.frozen (p := ⟨w.heap.size + 1, 0, none⟩) HWR.out).trans FH.out
            clear hs
            go_wp2
            have S0 := World.cell?_setCell_same _ _ (.slice a5 qs.length c5) zr
            have E6 : Ext w (wr.setCell ⟨w.heap.size + 1, 0, none⟩ (.slice a5 qs.length c5)) := ext_set (ext_trans EW.out hold) (Nat.le_succ _) _
            have N6 : NewQs (wr.setCell ⟨w.heap.size + 1, 0, none⟩ (.slice a5 qs.length c5)) w.heap.size qs (.slice a5 qs.length c5) := (hN.set (by have := HWR.out; have := HBO.out; show w.heap.size + 1 < bo + 1; omega) _).mono (by have := HWR.out; have := HBO.out; omega)
            generalize wr.setCell ⟨w.heap.size + 1, 0, none⟩ (.slice a5 qs.length c5) = W6 at S0 E6 N6 ⊢
            refine bodyPost_ret (by simp [results, Try.results25, go_sem, S0]; try rfl) rfl ?_
            have hmap2 : qs.map (·.1) = left.map (·.1) := by rw [hmap]; exact List.take_of_length_le (by rw [List.length_map]; exact Nat.le_refl _)
            refine ⟨a5, qs.length, c5, qs, by rw [HQ2.out], rfl, by rw [HQ2.out]; exact hmap2, fun q hq => ?_, N6, E6⟩
            have h9 : q.1 ∈ left.map (·.1) := by rw [← hmap2]; exact List.mem_map.2 ⟨q, hq, rfl⟩
            obtain ⟨q', hq', e'⟩ := List.mem_map.1 h9
            rw [← e']
            exact RuleB.of (OKL.out q' hq')
      · obtain ⟨m, rfl⟩ : ∃ m : Nat, j = (m : Int) := ⟨j.toNat, by omega⟩
        clear hj1 hj
        have hml : m < left.length := by omega
        obtain ⟨qx, hqx⟩ : ∃ q, left[m]? = some q := ⟨_, List.getElem?_eq_getElem hml⟩
        have HX := Lib.hid hqx
        obtain ⟨SC, hSC⟩ : ∃ s, s = scanW qx.1 ((left.map (·.1)).eraseIdx m) := ⟨_, rfl⟩
        have HSTEP : Hid (R = stepP m (left.map (·.1)) SC) := by
          show _ = _
          rw [HQ.out, show ((m : Int) + 1).toNat = m + 1 by omega, pruneGo_step (x := qx.1) (by rw [List.getElem?_map, hqx]; rfl), hSC]
        have HSC := Lib.hid (hSC.trans (scanI_erase qx.1 m (left.map (·.1)) 0 (Nat.zero_le _)).symm)
        clear hqx hSC hj2
        go_wp2
        obtain ⟨wo, rfl⟩ : ∃ wo : World, wo = wr := ⟨_, rfl⟩
        go_loopw [5, 32] (fun v5 v wj => ∃ k : Nat, k ≤ left.length ∧ v5 = .slice g left.length c ∧ v = .int .i64 (k : Int) ∧ Ext wo wj ∧ SC = scanI qx.1 m ((left.map (·.1)).drop k) k) (fun _ v _ => left.length - (intOf v).toNat)
        case atStart => exact ⟨0, by omega, rfl, rfl, Below.refl _ _, by rw [List.drop_zero]; exact HSC.out⟩
        case round =>
          obtain ⟨k, hk, rfl, rfl, hE, hs⟩ := hrel
          have HE := Lib.hid hE
          have HS := Lib.hid hs
          have hrow2 := up_ext HROW.out hE
          clear hE hs
          by_cases hge : left.length ≤ k
          · have hno : SC = .no := by rw [HS.out, List.drop_of_length_le (by rw [List.length_map]; exact hge)]; rfl
            have HNO := Lib.hid hno
            have hlk : ¬ (k : Int) < (left.length : Int) := by omega
            clear hno
            go_wp2
            go_roundw
            case rel =>
              refine ⟨(m : Int) - 1, left, rfl, by omega, by omega, hln, ⟨ext_trans HL.out.old HE.out, ⟨g, c, rfl, hgc, hrow2⟩, HL.out.ok⟩, ?_⟩
              rw [HSTEP.out, HNO.out, show ((m : Int) - 1 + 1).toNat = m by omega]
              rfl
            case measure => simp [intOf] <;> omega
          · obtain ⟨qs_, hqs_⟩ : ∃ q, left[k]? = some q := ⟨_, List.getElem?_eq_getElem (by omega)⟩
            obtain ⟨gb, rfl, k0, k1, k2⟩ := row_cells hrow2 hqs_
            obtain ⟨_, e_, m0, m1, m2⟩ := row_cells hrow2 HX.out
            cases e_
            have hki : (k : Int) < (left.length : Int) := by omega
            have hmi : (m : Int) < (left.length : Int) := by omega
            have OS : Hid (RuleV wr qs_.1 qs_.2.1.1 qs_.2.1.2.1 qs_.2.1.2.2 qs_.2.2.1 qs_.2.2.2.1 qs_.2.2.2.2) := ((HL.out.ok qs_ (List.mem_of_getElem? hqs_)).keep (ext_trans HL.out.old HE.out))
            have OX : Hid (RuleV wr qx.1 qx.2.1.1 qx.2.1.2.1 qx.2.1.2.2 qx.2.2.1 qx.2.2.2.1 qx.2.2.2.2) := ((HL.out.ok qx (List.mem_of_getElem? HX.out)).keep (ext_trans HL.out.old HE.out))
            have HDR : Hid ((left.map (·.1)).drop k = qs_.1 :: (left.map (·.1)).drop (k + 1)) := drop_at (by rw [List.getElem?_map, hqs_]; rfl)
            have HRW := Lib.hid hrow2
            clear hqs_ hrow2
            go_upto_region 11 with (fail)
            refine wp_gen (fun W2 hW2 => ?_)
            have e2 : Ext wr W2 := by rw [hW2]; exact ext_alloc (Below.refl _ _) _
            have b0 : W2.cell? ⟨wr.heap.size, 0, none⟩ = some (.string qs_.1.head.pred) := by rw [hW2]; go_simp
            have b1 : W2.cell? ⟨wr.heap.size, 1, none⟩ = some (.slice qs_.2.1.1 qs_.2.1.2.1 qs_.2.1.2.2) := by rw [hW2]; go_simp
            have b2 : W2.cell? ⟨wr.heap.size, 2, none⟩ = some (.slice qs_.2.2.1 qs_.2.2.2.1 qs_.2.2.2.2) := by rw [hW2]; go_simp
            have m0 := keep e2 m0
            have m1 := keep e2 m1
            have m2 := keep e2 m2
            have sb : wr.heap.size < W2.heap.size := World.block_lt_of_cell? W2 ⟨wr.heap.size, 0, none⟩ b0
            have sg : gb < W2.heap.size := World.block_lt_of_cell? W2 ⟨gb, m * 3, none⟩ m0
            have hd2 : Ext W2 W2.drew := ext_drew (Below.refl _ _)
            have E2 := Lib.hid e2
            clear hW2 k0 k1 k2 e2
            obtain ⟨bs_, hbs⟩ : ∃ b, b = wr.heap.size := ⟨_, rfl⟩
            rw [← hbs] at b0 b1 b2 sb ⊢
            clear hbs
            obtain ⟨D, hD⟩ : ∃ b : Bool, ((k : Int) == (m : Int)) = b := ⟨_, rfl⟩
            obtain ⟨E, hEE⟩ : ∃ b : Bool, (qs_.1.head.pred.toList == qx.1.head.pred.toList) = b := ⟨_, rfl⟩
            obtain ⟨P1, hP1⟩ : ∃ b, plain qs_.1 = b := ⟨_, rfl⟩
            obtain ⟨P2, hP2⟩ : ∃ b, plain qx.1 = b := ⟨_, rfl⟩
            have HP1 := Lib.hid hP1
            have HP2 := Lib.hid hP2
            clear hP1 hP2
            go_cut [64] (fun v64 wc => ∃ C : Bool, v64 = .bool C ∧ C = (D || (!E || (!P1 || !P2))) ∧ Ext W2 wc)
            case first =>
              cases D with
              | true =>
                go_quiet (fail)
                go_wp2
                go_meet
                exact ⟨_, rfl, rfl, ext_drewN (Below.refl _ _) _⟩
              | false =>
                cases E with
                | false =>
                  go_quiet (fail)
                  go_wp2
                  go_meet
                  exact ⟨_, rfl, rfl, ext_drewN (Below.refl _ _) _⟩
                | true =>
                  cases P1 with
                  | false =>
                    refine wp_region_held_drew (S := (fun w' => ∀ b o, b < W2.heap.size → w'.cell? ⟨b, o, none⟩ = W2.cell? ⟨b, o, none⟩)) (by kernel_rfl) ?_ (fun hHeld0 => ?_)
                    · intro bb oo hbb; rfl
                    refine wpAnyH_take (i := 0) (oi := { dst := some 37, op := Go.Op.move (Go.Operand.tmp 7), type := 3, pos := "contain.go:179", after := #[], guard := none }) (v := ?v0) rfl (by kernel_rfl) (by kernel_rfl) (by kernel_rfl) (fun _ _ _ h => h) (Or.inl ⟨by rfl, ?hy0⟩) (by assumption) ?rest0
                    case hy0 => (intro w hSw; (try dsimp only at hSw); go_simp; first | done | with_reducible rfl)
                    try simp only [Act.put, List.setIfInBounds_toArray, List.set_cons_zero, List.set_cons_succ]
                    refine wpAnyH_take (i := 1) (oi := { dst := some 38, op := Go.Op.move (Go.Operand.tmp 6), type := 3, pos := "contain.go:179", after := #[], guard := none }) (v := ?v1) rfl (by kernel_rfl) (by kernel_rfl) (by kernel_rfl) (fun _ _ _ h => h) (Or.inl ⟨by rfl, ?hy1⟩) (by assumption) ?rest1
                    case hy1 => (intro w hSw; (try dsimp only at hSw); go_simp; first | done | with_reducible rfl)
                    try simp only [Act.put, List.setIfInBounds_toArray, List.set_cons_zero, List.set_cons_succ]
                    refine wpAnyH_take (i := 2) (oi := { dst := some 39, op := Go.Op.binOp Go.BinOp.eql 3 (Go.Operand.tmp 37) (Go.Operand.tmp 38) 3, type := 4, pos := "contain.go:179", after := #[{ on := 0, ground := Go.Ground.data }, { on := 1, ground := Go.Ground.data }], guard := none }) (v := ?v2) rfl (by kernel_rfl) (by kernel_rfl) (by kernel_rfl) (fun _ _ _ h => h) (Or.inl ⟨by rfl, ?hy2⟩) (by assumption) ?rest2
                    case hy2 => (intro w hSw; (try dsimp only at hSw); go_simp; first | done | with_reducible rfl)
                    try simp only [Act.put, List.setIfInBounds_toArray, List.set_cons_zero, List.set_cons_succ]
                    refine wpAnyH_take (i := 3) (oi := { dst := some 40, op := Go.Op.move (Go.Operand.tmp 39), type := 4, pos := "contain.go:179", after := #[{ on := 2, ground := Go.Ground.data }], guard := none }) (v := ?v3) rfl (by kernel_rfl) (by kernel_rfl) (by kernel_rfl) (fun _ _ _ h => h) (Or.inl ⟨by rfl, ?hy3⟩) (by assumption) ?rest3
                    case hy3 => (intro w hSw; (try dsimp only at hSw); go_simp; first | done | with_reducible rfl)
                    try simp only [Act.put, List.setIfInBounds_toArray, List.set_cons_zero, List.set_cons_succ]
                    refine wpAnyH_take (i := 4) (oi := { dst := some 41, op := Go.Op.fieldAddr 27 (Go.Operand.tmp 8) 0, type := 0, pos := "contain.go:179", after := #[{ on := 3, ground := Go.Ground.guard }], guard := some (3, false) }) (v := ?v4) rfl (by kernel_rfl) (by kernel_rfl) (by kernel_rfl) (fun _ _ _ h => h) (Or.inl ⟨by rfl, ?hy4⟩) (by assumption) ?rest4
                    case hy4 => (intro w hSw; (try dsimp only at hSw); go_simp; first | done | with_reducible rfl)
                    try simp only [Act.put, List.setIfInBounds_toArray, List.set_cons_zero, List.set_cons_succ]
                    refine wpAnyH_take (i := 5) (oi := { dst := some 42, op := Go.Op.fieldAddr 24 (Go.Operand.tmp 41) 0, type := 0, pos := "contain.go:179", after := #[{ on := 4, ground := Go.Ground.data }, { on := 3, ground := Go.Ground.guard }], guard := some (3, false) }) (v := ?v5) rfl (by kernel_rfl) (by kernel_rfl) (by kernel_rfl) (fun _ _ _ h => h) (Or.inl ⟨by rfl, ?hy5⟩) (by assumption) ?rest5
                    case hy5 => (intro w hSw; (try dsimp only at hSw); go_simp; first | done | with_reducible rfl)
                    try simp only [Act.put, List.setIfInBounds_toArray, List.set_cons_zero, List.set_cons_succ]
                    refine wpAnyH_take (i := 6) (oi := { dst := some 43, op := Go.Op.load 9 (Go.Operand.tmp 42), type := 9, pos := "contain.go:179", after := #[{ on := 5, ground := Go.Ground.data }, { on := 3, ground := Go.Ground.guard }], guard := some (3, false) }) (v := ?v6) rfl (by kernel_rfl) (by kernel_rfl) (by kernel_rfl) (fun _ _ _ h => h) (Or.inl ⟨by rfl, ?hy6⟩) (by assumption) ?rest6
                    case hy6 => (intro w hSw; (try dsimp only at hSw); go_simp; first | done | with_reducible rfl)
                    try simp only [Act.put, List.setIfInBounds_toArray, List.set_cons_zero, List.set_cons_succ]
                    refine wpAnyH_take (i := 7) (oi := { dst := some 44, op := Go.Op.move (Go.Operand.tmp 5), type := 55, pos := "contain.go:179", after := #[{ on := 3, ground := Go.Ground.guard }], guard := some (3, false) }) (v := ?v7) rfl (by kernel_rfl) (by kernel_rfl) (by kernel_rfl) (fun _ _ _ h => h) (Or.inl ⟨by rfl, ?hy7⟩) (by assumption) ?rest7
                    case hy7 => (intro w hSw; (try dsimp only at hSw); go_simp; first | done | with_reducible rfl)
                    try simp only [Act.put, List.setIfInBounds_toArray, List.set_cons_zero, List.set_cons_succ]
                    refine wpAnyH_take (i := 8) (oi := { dst := some 45, op := Go.Op.move (Go.Operand.tmp 6), type := 3, pos := "contain.go:179", after := #[{ on := 3, ground := Go.Ground.guard }], guard := some (3, false) }) (v := ?v8) rfl (by kernel_rfl) (by kernel_rfl) (by kernel_rfl) (fun _ _ _ h => h) (Or.inl ⟨by rfl, ?hy8⟩) (by assumption) ?rest8
                    case hy8 => (intro w hSw; (try dsimp only at hSw); go_simp; first | done | with_reducible rfl)
                    try simp only [Act.put, List.setIfInBounds_toArray, List.set_cons_zero, List.set_cons_succ]
                    refine wpAnyH_take (i := 9) (oi := { dst := some 46, op := Go.Op.indexAddr 55 (Go.Operand.tmp 44) (Go.Operand.tmp 45), type := 0, pos := "contain.go:179", after := #[{ on := 7, ground := Go.Ground.data }, { on := 8, ground := Go.Ground.data }, { on := 3, ground := Go.Ground.guard }], guard := some (3, false) }) (v := ?v9) rfl (by kernel_rfl) (by kernel_rfl) (by kernel_rfl) (fun _ _ _ h => h) (Or.inl ⟨by rfl, ?hy9⟩) (by assumption) ?rest9
                    case hy9 => (intro w hSw; (try dsimp only at hSw); go_simp; first | done | with_reducible rfl)
                    try simp only [Act.put, List.setIfInBounds_toArray, List.set_cons_zero, List.set_cons_succ]
                    refine wpAnyH_take (i := 10) (oi := { dst := some 47, op := Go.Op.fieldAddr 27 (Go.Operand.tmp 46) 0, type := 0, pos := "contain.go:179", after := #[{ on := 9, ground := Go.Ground.data }, { on := 3, ground := Go.Ground.guard }], guard := some (3, false) }) (v := ?v10) rfl (by kernel_rfl) (by kernel_rfl) (by kernel_rfl) (fun _ _ _ h => h) (Or.inl ⟨by rfl, ?hy10⟩) (by assumption) ?rest10
                    case hy10 => (intro w hSw; (try dsimp only at hSw); go_simp; first | done | with_reducible rfl)
                    try simp only [Act.put, List.setIfInBounds_toArray, List.set_cons_zero, List.set_cons_succ]
                    refine wpAnyH_take (i := 11) (oi := { dst := some 48, op := Go.Op.fieldAddr 24 (Go.Operand.tmp 47) 0, type := 0, pos := "contain.go:179", after := #[{ on := 10, ground := Go.Ground.data }, { on := 3, ground := Go.Ground.guard }], guard := some (3, false) }) (v := ?v11) rfl (by kernel_rfl) (by kernel_rfl) (by kernel_rfl) (fun _ _ _ h => h) (Or.inl ⟨by rfl, ?hy11⟩) (by assumption) ?rest11
                    case hy11 => (intro w hSw; (try dsimp only at hSw); go_simp; first | done | with_reducible rfl)
                    try simp only [Act.put, List.setIfInBounds_toArray, List.set_cons_zero, List.set_cons_succ]
                    refine wpAnyH_take (i := 12) (oi := { dst := some 49, op := Go.Op.load 9 (Go.Operand.tmp 48), type := 9, pos := "contain.go:179", after := #[{ on := 11, ground := Go.Ground.data }, { on := 3, ground := Go.Ground.guard }], guard := some (3, false) }) (v := ?v12) rfl (by kernel_rfl) (by kernel_rfl) (by kernel_rfl) (fun _ _ _ h => h) (Or.inl ⟨by rfl, ?hy12⟩) (by assumption) ?rest12
                    case hy12 => (intro w hSw; (try dsimp only at hSw); go_simp; first | done | with_reducible rfl)
                    try simp only [Act.put, List.setIfInBounds_toArray, List.set_cons_zero, List.set_cons_succ]
                    refine wpAnyH_take (i := 13) (oi := { dst := some 50, op := Go.Op.binOp Go.BinOp.neq 9 (Go.Operand.tmp 43) (Go.Operand.tmp 49) 9, type := 4, pos := "contain.go:179", after := #[{ on := 6, ground := Go.Ground.data }, { on := 12, ground := Go.Ground.data }, { on := 3, ground := Go.Ground.guard }], guard := some (3, false) }) (v := ?v13) rfl (by kernel_rfl) (by kernel_rfl) (by kernel_rfl) (fun _ _ _ h => h) (Or.inl ⟨by rfl, ?hy13⟩) (by assumption) ?rest13
                    case hy13 => (intro w hSw; (try dsimp only at hSw); go_simp; first | done | with_reducible rfl)
                    try simp only [Act.put, List.setIfInBounds_toArray, List.set_cons_zero, List.set_cons_succ]
                    refine wpAnyH_take (i := 14) (oi := { dst := some 51, op := Go.Op.pick (Go.Operand.tmp 40) (Go.Operand.const (Go.Value.bool true)) (Go.Operand.tmp 50), type := 4, pos := "contain.go:179", after := #[{ on := 3, ground := Go.Ground.data }, { on := 13, ground := Go.Ground.data }], guard := none }) (v := ?v14) rfl (by kernel_rfl) (by kernel_rfl) (by kernel_rfl) (fun _ _ _ h => h) (Or.inl ⟨by rfl, ?hy14⟩) (by assumption) ?rest14
                    case hy14 => (intro w hSw; (try dsimp only at hSw); go_simp; first | done | with_reducible rfl)
                    try simp only [Act.put, List.setIfInBounds_toArray, List.set_cons_zero, List.set_cons_succ]
                    refine wpAnyH_take (i := 15) (oi := { dst := some 52, op := Go.Op.move (Go.Operand.tmp 51), type := 4, pos := "contain.go:179", after := #[{ on := 14, ground := Go.Ground.data }, { on := 3, ground := Go.Ground.chain }], guard := none }) (v := ?v15) rfl (by kernel_rfl) (by kernel_rfl) (by kernel_rfl) (fun _ _ _ h => h) (Or.inl ⟨by rfl, ?hy15⟩) (by assumption) ?rest15
                    case hy15 => (intro w hSw; (try dsimp only at hSw); go_simp; first | done | with_reducible rfl)
                    try simp only [Act.put, List.setIfInBounds_toArray, List.set_cons_zero, List.set_cons_succ]
                    refine wpAnyH_take (i := 16) (oi := { dst := some 53, op := Go.Op.load 27 (Go.Operand.tmp 8), type := 27, pos := "contain.go:179", after := #[{ on := 15, ground := Go.Ground.guard }], guard := some (15, false) }) (v := ?v16) rfl (by kernel_rfl) (by kernel_rfl) (by kernel_rfl) (fun _ _ _ h => h) (Or.inl ⟨by rfl, ?hy16⟩) (by assumption) ?rest16
                    case hy16 => (intro w hSw; (try dsimp only at hSw); go_simp; first | done | with_reducible rfl)
                    try simp only [Act.put, List.setIfInBounds_toArray, List.set_cons_zero, List.set_cons_succ]
                    refine wpAnyH_ready (rs := [17]) (by kernel_rfl) (by simp) ?_
                    refine AllReadyH.cons (o := { dst := some 54, op := Go.Op.call { callee := Go.Callee.value (Go.Operand.func 15), args := #[Go.Operand.tmp 53], argTypes := #[27] }, type := 4, pos := "contain.go:179", after := #[{ on := 16, ground := Go.Ground.data }, { on := 15, ground := Go.Ground.chain }, { on := 15, ground := Go.Ground.guard }], guard := some (15, false) }) rfl (fun K hK => ?_) AllReadyH.nil
                    go_simp
                    ((with_reducible refine (c_Plain qs_.1 _ _ _ _ _ _ W2.drew (OS.out.keep (ext_trans E2.out hd2))).mono ?_); rw [HP1.out]; rintro e w4 ⟨rfl, h4⟩; have g4 := ext_trans hd2 h4)
                    refine hK.out _ _ ?_ (fun hHeld18 => ?_)
                    · intro bb oo hbb; exact g4.cell (p := ⟨bb, oo, none⟩) hbb
                    clear hK K
                    try simp only [Act.put, List.setIfInBounds_toArray, List.set_cons_zero, List.set_cons_succ]
                    refine wpAnyH_take (i := 18) (oi := { dst := some 55, op := Go.Op.unOp Go.UnOp.not 4 (Go.Operand.tmp 54), type := 4, pos := "contain.go:179", after := #[{ on := 17, ground := Go.Ground.data }, { on := 15, ground := Go.Ground.guard }], guard := some (15, false) }) (v := ?v18) rfl (by kernel_rfl) (by kernel_rfl) (by kernel_rfl) (fun _ _ _ h => h) (Or.inl ⟨by rfl, ?hy18⟩) (by assumption) ?rest18
                    case hy18 => (intro w hSw; (try dsimp only at hSw); go_simp; first | done | with_reducible rfl)
                    try simp only [Act.put, List.setIfInBounds_toArray, List.set_cons_zero, List.set_cons_succ]
                    refine wpAnyH_take (i := 19) (oi := { dst := some 56, op := Go.Op.pick (Go.Operand.tmp 52) (Go.Operand.const (Go.Value.bool true)) (Go.Operand.tmp 55), type := 4, pos := "contain.go:179", after := #[{ on := 15, ground := Go.Ground.data }, { on := 18, ground := Go.Ground.data }], guard := none }) (v := ?v19) rfl (by kernel_rfl) (by kernel_rfl) (by kernel_rfl) (fun _ _ _ h => h) (Or.inl ⟨by rfl, ?hy19⟩) (by assumption) ?rest19
                    case hy19 => (intro w hSw; (try dsimp only at hSw); go_simp; first | done | with_reducible rfl)
                    try simp only [Act.put, List.setIfInBounds_toArray, List.set_cons_zero, List.set_cons_succ]
                    refine wpAnyH_take (i := 20) (oi := { dst := some 57, op := Go.Op.move (Go.Operand.tmp 56), type := 4, pos := "contain.go:179", after := #[{ on := 19, ground := Go.Ground.data }, { on := 17, ground := Go.Ground.chain }], guard := none }) (v := ?v20) rfl (by kernel_rfl) (by kernel_rfl) (by kernel_rfl) (fun _ _ _ h => h) (Or.inl ⟨by rfl, ?hy20⟩) (by assumption) ?rest20
                    case hy20 => (intro w hSw; (try dsimp only at hSw); go_simp; first | done | with_reducible rfl)
                    try simp only [Act.put, List.setIfInBounds_toArray, List.set_cons_zero, List.set_cons_succ]
                    refine wpAnyH_take (i := 21) (oi := { dst := some 58, op := Go.Op.move (Go.Operand.tmp 5), type := 55, pos := "contain.go:179", after := #[{ on := 20, ground := Go.Ground.guard }], guard := some (20, false) }) rfl (by kernel_rfl) (by kernel_rfl) (by kernel_rfl) (fun _ _ _ h => h) (Or.inr ⟨by rfl, rfl⟩) (by assumption) ?_
                    try simp only [Act.put, List.setIfInBounds_toArray, List.set_cons_zero, List.set_cons_succ]
                    refine wpAnyH_take (i := 22) (oi := { dst := some 59, op := Go.Op.move (Go.Operand.tmp 6), type := 3, pos := "contain.go:179", after := #[{ on := 20, ground := Go.Ground.guard }], guard := some (20, false) }) rfl (by kernel_rfl) (by kernel_rfl) (by kernel_rfl) (fun _ _ _ h => h) (Or.inr ⟨by rfl, rfl⟩) (by assumption) ?_
                    try simp only [Act.put, List.setIfInBounds_toArray, List.set_cons_zero, List.set_cons_succ]
                    refine wpAnyH_take (i := 23) (oi := { dst := some 60, op := Go.Op.indexAddr 55 (Go.Operand.tmp 58) (Go.Operand.tmp 59), type := 0, pos := "contain.go:179", after := #[{ on := 21, ground := Go.Ground.data }, { on := 22, ground := Go.Ground.data }, { on := 20, ground := Go.Ground.guard }], guard := some (20, false) }) rfl (by kernel_rfl) (by kernel_rfl) (by kernel_rfl) (fun _ _ _ h => h) (Or.inr ⟨by rfl, rfl⟩) (by assumption) ?_
                    try simp only [Act.put, List.setIfInBounds_toArray, List.set_cons_zero, List.set_cons_succ]
                    refine wpAnyH_take (i := 24) (oi := { dst := some 61, op := Go.Op.load 27 (Go.Operand.tmp 60), type := 27, pos := "contain.go:179", after := #[{ on := 23, ground := Go.Ground.data }, { on := 20, ground := Go.Ground.guard }], guard := some (20, false) }) rfl (by kernel_rfl) (by kernel_rfl) (by kernel_rfl) (fun _ _ _ h => h) (Or.inr ⟨by rfl, rfl⟩) (by assumption) ?_
                    try simp only [Act.put, List.setIfInBounds_toArray, List.set_cons_zero, List.set_cons_succ]
                    refine wpAnyH_take (i := 25) (oi := { dst := some 62, op := Go.Op.call { callee := Go.Callee.value (Go.Operand.func 15), args := #[Go.Operand.tmp 61], argTypes := #[27] }, type := 4, pos := "contain.go:179", after := #[{ on := 24, ground := Go.Ground.data }, { on := 20, ground := Go.Ground.chain }, { on := 20, ground := Go.Ground.guard }], guard := some (20, false) }) rfl (by kernel_rfl) (by kernel_rfl) (by kernel_rfl) (fun _ _ _ h => h) (Or.inr ⟨by rfl, rfl⟩) (by assumption) ?_
                    try simp only [Act.put, List.setIfInBounds_toArray, List.set_cons_zero, List.set_cons_succ]
                    refine wpAnyH_take (i := 26) (oi := { dst := some 63, op := Go.Op.unOp Go.UnOp.not 4 (Go.Operand.tmp 62), type := 4, pos := "contain.go:179", after := #[{ on := 25, ground := Go.Ground.data }, { on := 20, ground := Go.Ground.guard }], guard := some (20, false) }) rfl (by kernel_rfl) (by kernel_rfl) (by kernel_rfl) (fun _ _ _ h => h) (Or.inr ⟨by rfl, rfl⟩) (by assumption) ?_
                    try simp only [Act.put, List.setIfInBounds_toArray, List.set_cons_zero, List.set_cons_succ]
                    refine wpAnyH_take (i := 27) (oi := { dst := some 64, op := Go.Op.pick (Go.Operand.tmp 57) (Go.Operand.const (Go.Value.bool true)) (Go.Operand.tmp 63), type := 4, pos := "contain.go:179", after := #[{ on := 20, ground := Go.Ground.data }, { on := 26, ground := Go.Ground.data }], guard := none }) (v := ?v27) rfl (by kernel_rfl) (by kernel_rfl) (by kernel_rfl) (fun _ _ _ h => h) (Or.inl ⟨by rfl, ?hy27⟩) (by assumption) ?rest27
                    case hy27 => (intro w hSw; (try dsimp only at hSw); go_simp; first | done | with_reducible rfl)
                    try simp only [Act.put, List.setIfInBounds_toArray, List.set_cons_zero, List.set_cons_succ]
                    refine wpAnyH_done (by kernel_rfl) ?_ _
                    all_goals
                      go_wp2
                      go_meet
                      exact ⟨_, rfl, rfl, g4⟩
                  | true =>
                    go_region_held3 (fun w' => ∀ b o, b < W2.heap.size → w'.cell? ⟨b, o, none⟩ = W2.cell? ⟨b, o, none⟩)
                      ((intro bb oo hbb; first | rfl | exact g5.cell (p := ⟨bb, oo, none⟩) hbb | exact g4.cell (p := ⟨bb, oo, none⟩) hbb))
                      (first
                        | (go_at_call 15; (with_reducible refine (c_Plain qs_.1 _ _ _ _ _ _ W2.drew (OS.out.keep (ext_trans E2.out hd2))).mono ?_); rw [HP1.out]; rintro e w4 ⟨rfl, h4⟩; have g4 := ext_trans hd2 h4)
                        | (go_at_call 15; (with_reducible refine (c_Plain qx.1 _ _ _ _ _ _ w4 (OX.out.keep (ext_trans E2.out g4))).mono ?_); rw [HP2.out]; rintro e w5 ⟨rfl, h5⟩; have g5 := ext_trans g4 h5)
                        | fail)
                    all_goals
                      go_wp2
                      go_meet
                      exact ⟨_, rfl, rfl, g5⟩
            case rest =>
              obtain ⟨C, rfl, hC, e3⟩ := hcut
              have hDk : D = true ↔ k = m := by rw [← hD, beq_iff_eq]; omega
              have hEk : E = true ↔ qs_.1.head.pred = qx.1.head.pred := by rw [← hEE, beq_bytes, decide_eq_true_eq]
              have HDK := Lib.hid hDk
              have HEK := Lib.hid hEk
              have HCC := Lib.hid hC
              have E3 := Lib.hid (ext_trans E2.out e3)
              clear hDk hEk hC hD hEE
              cases C with
              | true =>
                have hskip : SC = scanI qx.1 m ((left.map (·.1)).drop (k + 1)) (k + 1) := by
                  rw [HS.out, HDR.out]
                  refine scanI_skip ?_
                  have hc := HCC.out
                  rw [HP1.out, HP2.out]
                  by_cases h1 : k = m
                  · exact .inl h1
                  · by_cases h2 : qs_.1.head.pred = qx.1.head.pred
                    · have d1 : D = false := by rw [← Bool.not_eq_true]; exact fun h => h1 (HDK.out.1 h)
                      have d2 : E = true := HEK.out.2 h2
                      rw [d1, d2] at hc
                      cases P1 with
                      | false => exact .inr (.inr (.inl rfl))
                      | true =>
                        cases P2 with
                        | false => exact .inr (.inr (.inr rfl))
                        | true => cases hc
                    · exact .inr (.inl h2)
                have HSK := Lib.hid hskip
                clear hskip
                go_wp2
                go_roundw
                case rel => exact ⟨k + 1, by omega, rfl, by go_num, ext_trans HE.out E3.out, HSK.out⟩
                case measure => simp [intOf]; omega
              | false =>
                have hkm : ¬ k = m ∧ P1 = true ∧ P2 = true := by
                  have hc := HCC.out
                  cases D with
                  | true => cases hc
                  | false =>
                    refine ⟨(fun h => by have := HDK.out.2 h; cases this), ?_⟩
                    cases E with
                    | false => cases hc
                    | true =>
                      cases P1 with
                      | false => cases hc
                      | true =>
                        cases P2 with
                        | false => cases hc
                        | true => exact ⟨rfl, rfl⟩
                obtain ⟨hkm, rfl, rfl⟩ := hkm
                have GO : Hid (SC = if (laid qx.1 qs_.1).1 ≠ 0 then .err (laid qx.1 qs_.1).1 else if (laid qx.1 qs_.1).2.isSome = true then .yes else scanI qx.1 m ((left.map (·.1)).drop (k + 1)) (k + 1)) := by
                  show _ = _
                  rw [HS.out, HDR.out]
                  exact scanI_go hkm HP1.out HP2.out
                obtain ⟨X, hX⟩ : ∃ x, laid qx.1 qs_.1 = x := ⟨_, rfl⟩
                have LX := Lib.hid hX
                rw [hX] at GO
                obtain ⟨X1, hX1⟩ : ∃ x, X.1 = x := ⟨_, rfl⟩
                obtain ⟨B, hB⟩ : ∃ x, X.2.isSome = x := ⟨_, rfl⟩
                rw [hX1, hB] at GO
                have LX1 := Lib.hid hX1
                have LB := Lib.hid hB
                have b0 := keep e3 b0
                have b1 := keep e3 b1
                have b2 := keep e3 b2
                have m0 := keep e3 m0
                have m1 := keep e3 m1
                have m2 := keep e3 m2
                have sb := World.block_lt_of_cell? wc ⟨bs_, 0, none⟩ b0
                have sg := World.block_lt_of_cell? wc ⟨gb, m * 3, none⟩ m0
                have sb' : bs_ < wc.heap.size := sb
                have sg' : gb < wc.heap.size := sg
                have hd3 : Ext wc wc.drew := ext_drew (Below.refl _ _)
                clear sb sg hkm hX hX1 hB HCC HDK HEK
                go_upto_region 12 with (fail)
                go_cut [9, 10] (fun v9 v10 wd => v9 = .bool B ∧ v10 = .int .i64 X1 ∧ Ext wc wd)
                case first =>
                  go_region_held3 (fun w' => ∀ b o, b < wc.heap.size → w'.cell? ⟨b, o, none⟩ = wc.cell? ⟨b, o, none⟩)
                    ((intro bb oo hbb; first | rfl | exact g6.cell (p := ⟨bb, oo, none⟩) hbb))
                    (first
                      | (go_at_call 16; (with_reducible refine (c_Within qx.1 qs_.1 _ _ _ _ _ _ _ _ _ _ _ _ _ (OX.out.keep (ext_trans E3.out hd3)) (OS.out.keep (ext_trans E3.out hd3))).mono ?_); rw [LX.out, LX1.out, LB.out]; rintro e w6 ⟨rfl, h6⟩; have g6 := ext_trans hd3 h6)
                      | fail)
                  all_goals
                    go_wp2
                    go_meet
                    exact ⟨rfl, rfl, g6⟩
                case rest =>
                  obtain ⟨rfl, rfl, e6⟩ := hcut
                  have EI := Lib.hid (ext_trans HE.out (ext_trans E3.out e6))
                  have TE := Lib.hid (ext_trans HL.out.old EI.out)
                  clear e6
                  by_cases hx1 : X1 = 0
                  · subst hx1
                    cases B with
                    | false =>
                      have hnx : SC = scanI qx.1 m ((left.map (·.1)).drop (k + 1)) (k + 1) := by
                        rw [GO.out]
                        rfl
                      have HNX := Lib.hid hnx
                      clear hnx
                      go_wp2
                      go_roundw
                      case rel => exact ⟨k + 1, by omega, rfl, by go_num, EI.out, HNX.out⟩
                      case measure => simp [intOf]; omega
                    | true =>
                      have hye : SC = .yes := by
                        rw [GO.out]
                        rfl
                      have HYE := Lib.hid hye
                      have RD := Lib.hid (up_ext HROW.out EI.out)
                      clear hye
                      go_wp2_with (go_at_call 50; (with_reducible refine (c_DeleteR left gb left.length c m w1.heap.size _ RD.out hml hgc).mono ?_); rintro e w8 ⟨rfl, own8, g8⟩)
                      have hlen : (left.eraseIdx m).length = left.length - 1 := by rw [List.length_eraseIdx, if_pos hml]
                      have HLEN := Lib.hid hlen
                      have G8 := Lib.hid g8
                      have OWN8 := Lib.hid own8
                      clear own8 g8 hlen
                      go_roundw
                      case rel => exact ⟨(m : Int) - 1, left.eraseIdx m, rfl, by omega, by rw [HLEN.out]; omega, by rw [HLEN.out]; omega, ⟨ext_ownB TE.out G8.out (fun g e => by cases e; exact (HROW.out.lt gb rfl).1), ⟨some ⟨gb, 0, none⟩, c, by rw [HLEN.out], by rw [HLEN.out]; omega, by rw [HLEN.out]; exact OWN8.out⟩, fun q hq => HL.out.ok q (List.mem_of_mem_eraseIdx hq)⟩, by rw [HSTEP.out, HYE.out, show ((m : Int) - 1 + 1).toNat = m by omega, stepP, erase_map]⟩
                      case measure => simp [intOf] <;> omega
                  · have t3 : (X1 != 0) = true := by simpa using hx1
                    have zr := keep TE.out zz0
                    have fr := (TE.out.frozen (p := ⟨w.heap.size + 1, 0, none⟩) hz1).trans ff0
                    have HX1 := Lib.hid hx1
                    clear hx1
                    go_wp2
                    have S0 := World.cell?_setCell_same _ _ (.slice none 0 0) zr
                    have E6 : Ext w (wc.setCell ⟨w.heap.size + 1, 0, none⟩ (.slice none 0 0)) := ext_set (ext_trans hb1 TE.out) (Nat.le_succ _) _
                    generalize wc.setCell ⟨w.heap.size + 1, 0, none⟩ (.slice none 0 0) = W6 at S0 E6 ⊢
                    refine bodyPost_ret (by simp [results, Try.results25, go_sem, S0]; try rfl) rfl ?_
                    exact PrunePost.none (by rw [HSTEP.out, GO.out, if_pos HX1.out]; rfl) E6
  · have t1 : (M != 0) = true := by simpa using h0
    have H0 := Lib.hid h0
    clear h0
    go_wp2
    have S0 := World.cell?_setCell_same _ _ (.slice none 0 0) z0
    have E6 : Ext w (w1.setCell ⟨w.heap.size + 1, 0, none⟩ (.slice none 0 0)) := ext_set hb1 (Nat.le_succ _) _
    generalize w1.setCell ⟨w.heap.size + 1, 0, none⟩ (.slice none 0 0) = W6 at S0 E6 ⊢
    refine bodyPost_ret (by simp [results, Try.results25, go_sem, S0]; try rfl) rfl ?_
    exact PrunePost.none (by rw [FIN.out, prune, if_pos (by rw [HM.out]; exact H0.out), HM.out]) E6
end Go.Proofs.Ytcphjfggjjonpaa
