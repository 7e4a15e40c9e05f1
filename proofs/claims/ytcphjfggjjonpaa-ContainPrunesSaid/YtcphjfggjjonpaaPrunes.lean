/- The walk of the law ContainPrunes. -/
import Derived.Test.YtcphjfggjjonpaaIv
import Derived.Test.YtcphjfggjjonpaaPrun
import Derived.Test.YtcphjfggjjonpaaDPrun
namespace Go.Proofs.Ytcphjfggjjonpaa
open Go.ChangeShapes Go.WideShapes Go.ChangeAt Go.RowKit
theorem InSt.form {W : World} {rs : List Rule} {k : Nat} {v : Value} {w : World} (h : InSt W rs k v w) : ∃ a c, v = .slice a k c := by
  obtain ⟨_, _, _, _, _, hrow, _⟩ := h
  obtain ⟨a, c, e, _⟩ := own_form hrow
  exact ⟨a, c, e⟩
/-- The rule that is the mark. -/
def markQ : RuleQ := (⟨⟨⟨#[60, 109, 97, 114, 107, 62]⟩, []⟩, []⟩, (none, 0, 0), (none, 0, 0))
set_option maxRecDepth 100000 in
set_option maxHeartbeats 4000000 in
theorem c_prunes (rs : List Rule) (a : Option Addr) (n cap : Nat) (w : World) (hr : RulesAt w a n rs) :
    Calls Try.prog 6 #[.agg #[.slice a n cap]] w fun e w' => e = .returned (.bool true) ∧ Ext w w' := by
  have HR := Lib.hid hr
  have HL := Lib.hid hr.2.1
  have HN := Lib.hid hr.1
  clear hr
  obtain ⟨j0, jj, jj0, jj1, jj2⟩ := info_parts info_rule
  go_enter Try.func6, Try.ntmps6
  go_upto_region 1 with (fail)
  refine wp_gen (fun W hW => ?_)
  have hb0 : Ext w W := by rw [hW]; go_grown
  have x0 : W.cell? ⟨w.heap.size, 0, none⟩ = some (.slice a n cap) := by rw [hW]; go_simp
  have XX := Lib.hid x0
  have RW := Lib.hid (HR.out.keep hb0)
  clear hW
  go_wp2
  go_loopw [3, 4] (fun v3 v4 wj => ∃ k : Nat, k ≤ n ∧ v4 = .int .i64 (k : Int) ∧ InSt W rs k v3 wj) (fun _ v _ => n - (intOf v).toNat)
  case atStart => exact ⟨0, by omega, rfl, ⟨Below.refl _ _, [], fun _ => 0, fun _ => 0, rfl, World.ownsRow_nil _ _ _ _, Iv.nil _ _ _ _ _⟩⟩
  case round =>
    obtain ⟨k, hk, rfl, hs⟩ := hrel
    obtain ⟨a3, c3, rfl⟩ := hs.form
    have x1 := keep hs.old XX.out
    have HS := Lib.hid hs
    by_cases hlt : k < n
    · obtain ⟨r, hr⟩ : ∃ x, rs[k]? = some x := ⟨_, List.getElem?_eq_getElem (by rw [HL.out]; omega)⟩
      obtain ⟨g, off, q, rfl, rfl, k0, k1, k2, okq⟩ := ruleIn_at (RW.out.keep hs.old) hr
      have OQ : Hid (RuleV wr q.1 q.2.1.1 q.2.1.2.1 q.2.1.2.2 q.2.2.1 q.2.2.2.1 q.2.2.2.2) := okq
      have HRK := Lib.hid hr
      have hki : (k : Int) < (n : Int) := by omega
      clear hs hr okq
      go_upto_region 6 with (go_at_call 12; (with_reducible refine (c_own q.1 _ _ _ _ _ _ wr OQ.out).mono ?_); rintro e w1 ⟨g1, c1, g2, c2, rfl, O1, h1⟩; have O1 := Lib.hid O1)
      refine wp_gen (fun W4 hW4 => ?_)
      have e4 : Ext w1 W4 := by rw [hW4]; exact ext_alloc (Below.refl _ _) _
      have b0 : W4.cell? ⟨w1.heap.size, 0, none⟩ = some (.string q.1.head.pred) := by rw [hW4]; go_simp
      have b1 : W4.cell? ⟨w1.heap.size, 1, none⟩ = some (.slice (some ⟨g1, 0, none⟩) q.2.1.2.1 c1) := by rw [hW4]; go_simp
      have b2 : W4.cell? ⟨w1.heap.size, 2, none⟩ = some (.slice (some ⟨g2, 0, none⟩) q.2.2.2.1 c2) := by rw [hW4]; go_simp
      obtain ⟨hold, qs, lo, hi, hmap, hrow, hiv⟩ := HS.out
      have e14 := ext_trans h1 e4
      have HROW := Lib.hid (up_ext hrow e14)
      have HXL := Lib.hid (fun b e => (hrow.lt b e).2 : ∀ b, (Value.slice a3 k c3).ownBlock = some b → b < wr.heap.size)
      have HIV := Lib.hid hiv
      have HMAP := Lib.hid hmap
      have H1 := Lib.hid h1
      have H4 := Lib.hid e4
      have HOLD := Lib.hid hold
      have HLO : Hid (W.heap.size ≤ W4.heap.size) := (ext_trans hold e14).size
      have HBIG : Hid (k + 1 ≤ 2199023255488) := by show _ ≤ _; have := HN.out; omega
      have E1 : Hid (q.1.head.terms.length = q.2.1.2.1) := OQ.out.terms.2.1
      have E2 : Hid (q.1.body.length = q.2.2.2.1) := OQ.out.body.2.1
      clear hW4 hold hmap hrow hiv h1 e4 e14 k0 k1 k2
      have hnn := HN.out
      go_wp2_with (at_builtin; go_loud (refine wpList_append_lies _ rfl _ _ 55 rfl W.heap.size 27 j0 (.agg #[.string ⟨#[]⟩, .slice none 0 0, .slice none 0 0]) 3 64 Try.underlying55 jj jj0 jj1 jj2 rfl (by decide) (.slice a3 k c3) k (flatQ qs) rfl (HROW.out.alloc _) ⟨W4.heap.size, 0, none⟩ 1 1 (valsQ (q.1, (some ⟨g1, 0, none⟩, q.2.1.2.1, c1), (some ⟨g2, 0, none⟩, q.2.2.2.1, c2))) rfl rfl (news_three _ _ _ _ _) (flatQ_one' _) (Nat.zero_lt_one) (by have := HBIG.out; unfold maxLen; omega) (by have := HBIG.out; omega) (size_alloc_le HLO.out) _ rfl ?_); intro g7 p7 w7 own7 q7 hat7 hlt7)
      rw [← flatQ_snoc] at own7
      have hx7 : (Value.slice a3 k c3).ownBlock = some g7 ∨ w1.heap.size ≤ g7 := hat7.imp id (fun e => by rw [e]; have := H4.out.size; simp; omega)
      have hst : InSt W rs (k + 1) (.slice (some ⟨g7, 0, none⟩) (k + 1) p7) w7 := by
        refine ⟨ext_ownB (ext_alloc (ext_trans HOLD.out (ext_trans H1.out H4.out)) _) q7 (fun g e => (HROW.out.lt g e).1), qs ++ [(q.1, (some ⟨g1, 0, none⟩, q.2.1.2.1, c1), (some ⟨g2, 0, none⟩, q.2.2.2.1, c2))], _, _, ?_, own7, HIV.out.push H1.out H4.out q7 hx7 HOLD.out.size HXL.out ?_⟩
        · rw [List.map_append, HMAP.out, take_at HRK.out]
          rfl
        · refine ⟨w1, g1, c1, g2, c2, ?_, O1.out, rfl, HeapSame.refl _ _ _⟩
          show _ = ((_, q.1.head.terms.length, _), (_, q.1.body.length, _))
          rw [E1.out, E2.out]
      have HST := Lib.hid hst
      clear hst hx7 own7 q7 hat7 hlt7
      go_roundw
      case rel => exact ⟨k + 1, by omega, by go_num, HST.out⟩
      case measure => simp [intOf]; omega
    · obtain rfl : k = n := by omega
      have hge : ¬ (k : Int) < (k : Int) := by omega
      clear hs
      obtain ⟨hold, qs, lo, hi, hmap, hrow, hiv⟩ := HS.out
      have hqm : qs.map (·.1) = rs := by rw [hmap]; exact List.take_of_length_le (by rw [HL.out]; exact Nat.le_refl _)
      have HROW := Lib.hid hrow
      have HIV := Lib.hid hiv
      have HMAP := Lib.hid hqm
      have HOLD := Lib.hid hold
      have HLO : Hid (W.heap.size ≤ wr.heap.size) := hold.size
      have HBIG : Hid (k + 1 ≤ 2199023255489) := by show _ ≤ _; have := HN.out; omega
      clear hold hmap hrow hiv hqm
      go_upto_region 8 with (at_builtin; go_loud (refine wpList_append_lies _ rfl _ _ 55 rfl W.heap.size 27 j0 (.agg #[.string ⟨#[]⟩, .slice none 0 0, .slice none 0 0]) 3 64 Try.underlying55 jj jj0 jj1 jj2 rfl (by decide) (.slice a3 k c3) k (flatQ qs) rfl (HROW.out.alloc _) ⟨wr.heap.size, 0, none⟩ 1 1 (valsQ markQ) rfl rfl (news_three _ _ _ _ _) (flatQ_one' _) (Nat.zero_lt_one) (by have := HBIG.out; unfold maxLen; omega) (by have := HBIG.out; omega) (size_alloc_le HLO.out) _ rfl ?_); intro g7 p7 w7 own7 q7 hat7 hlt7)
      rw [← flatQ_snoc] at own7
      have hx7 : (Value.slice a3 k c3).ownBlock = some g7 ∨ wr.heap.size ≤ g7 := hat7.imp id (fun e => by rw [e]; simp)
      have iv7 := HIV.out.keep (Below.refl _ _) q7 hx7
      have e7 : Ext W w7 := ext_ownB (ext_alloc HOLD.out _) q7 (fun g e => (HROW.out.lt g e).1)
      have RA := Lib.hid (row_rules own7 iv7 HMAP.out RW.out)
      have OWN7 := Lib.hid own7
      have IV7 := Lib.hid iv7
      have E7 := Lib.hid e7
      have hkc : (k : Int) ≤ (p7 : Int) := by have := (cap_of_own own7).1; omega
      have HC7 : Hid (capOk (some ⟨g7, 0, none⟩) k p7) := ⟨by omega, by intro h; cases h⟩
      have HLB : Hid (W.heap.size ≤ w7.heap.size) := e7.size
      have x7 := keep e7 XX.out
      obtain ⟨R, hR⟩ : ∃ R, prune rs = R := ⟨_, rfl⟩
      have P1 : Hid (Calls Try.prog 25 #[.agg #[.slice (some ⟨g7, 0, none⟩) k p7]] w7 (PrunePost R w7)) := by show Calls _ _ _ _ _; rw [← hR]; exact c_Prune rs _ k p7 w7 RA.out HC7.out
      have RL : Hid ((R.2.getD []).length ≤ k) := by show _ ≤ _; rw [← hR, ← HL.out]; exact prune_len rs
      have HRR := Lib.hid hR
      clear hx7 iv7 e7 own7 q7 hat7 hlt7 hR HROW HIV HOLD HLO x1
      go_upto_region 9 with (go_at_call 25; (with_reducible refine P1.out.mono ?_); rintro e w8 ⟨aG, nG, cG, qG, rfl, hnG, hmG, hbG, NG, h8⟩; have NG := Lib.hid NG; have hbG := Lib.hid hbG; have hmG := Lib.hid hmG; have x8 := keep h8 x7)
      refine wp_gen (fun W8 hW8 => ?_)
      have e8 : Ext w8 W8 := by rw [hW8]; exact ext_alloc (Below.refl _ _) _
      have a0 : W8.cell? ⟨w8.heap.size, 0, none⟩ = some (.slice aG nG cG) := by rw [hW8]; go_simp
      have x8 := keep e8 x8
      have E8 := Lib.hid (ext_trans h8 e8)
      have NG8 := Lib.hid (NG.out.ext e8)
      have L8 := Lib.hid h8.size
      have P2 : Hid (Calls Try.prog 26 #[.agg #[.slice a k cap]] W8 (PrunePost R W8)) := by show Calls _ _ _ _ _; rw [← HRR.out]; exact c_dPrune rs _ k cap W8 (RW.out.keep (ext_trans E7.out E8.out))
      obtain ⟨pa, hpa⟩ : ∃ b, b = w8.heap.size := ⟨_, rfl⟩
      rw [← hpa] at a0 ⊢
      have HPA := Lib.hid hpa
      clear hW8 e8 h8 NG hpa x7 P1
      go_upto_region 10 with (go_at_call 26; (with_reducible refine P2.out.mono ?_); rintro e w9 ⟨aW, nW, cW, qW, rfl, hnW, hmW, hbW, NW, h9⟩; have NW := Lib.hid NW; have hbW := Lib.hid hbW; have hmW := Lib.hid hmW; have x9 := keep h9 x8; have a9 := keep h9 a0)
      refine wp_gen (fun W9 hW9 => ?_)
      have e9 : Ext w9 W9 := by rw [hW9]; exact ext_alloc (Below.refl _ _) _
      have d0 : W9.cell? ⟨w9.heap.size, 0, none⟩ = some (.slice aW nW cW) := by rw [hW9]; go_simp
      have x9 := keep e9 x9
      have a9 := keep e9 a9
      have E9 := Lib.hid (ext_trans E8.out (ext_trans h9 e9))
      have NG9 := Lib.hid (NG8.out.ext (ext_trans h9 e9))
      have NW9 := Lib.hid ((NW.out.ext e9).mono E8.out.size)
      have L9 : Hid (w7.heap.size ≤ w9.heap.size) := Nat.le_trans E8.out.size h9.size
      obtain ⟨pd, hpd⟩ : ∃ b, b = w9.heap.size := ⟨_, rfl⟩
      rw [← hpd] at d0 ⊢
      have HPD := Lib.hid hpd
      clear hW9 e9 h9 NW hpd x8 P2 NG8 a0
      have lG : nG ≤ 2199023255488 := by
        have h5 : (qG.map (·.1)).length = qG.length := List.length_map _
        rw [hmG.out] at h5
        have := RL.out
        have := HN.out
        omega
      have lW : nW ≤ 2199023255488 := by
        have h5 : (qW.map (·.1)).length = qW.length := List.length_map _
        rw [hmW.out] at h5
        have := RL.out
        have := HN.out
        omega
      have HNG := Lib.hid hnG
      have HNW := Lib.hid hnW
      have LG := Lib.hid lG
      have LW := Lib.hid lW
      have AG : Hid (RulesAt W9 aG nG (R.2.getD [])) := by have := NG9.out.rulesAt hnG hbG.out lG; rw [hmG.out] at this; exact this
      have AW : Hid (RulesAt W9 aW nW (R.2.getD [])) := by have := NW9.out.rulesAt hnW hbW.out lW; rw [hmW.out] at this; exact this
      have mc : W9.cell? ⟨g7, k * 3, none⟩ = some (.string ⟨#[60, 109, 97, 114, 107, 62]⟩) := by
        have hk7 : qs.length = k := by
          have h5 : (qs.map (·.1)).length = qs.length := List.length_map _
          rw [HMAP.out, HL.out] at h5
          omega
        obtain ⟨_, e, h0, _, _⟩ := row_cells (up_ext OWN7.out E9.out) (i := k) (q := markQ) (by rw [List.getElem?_append_right (by omega), hk7, Nat.sub_self]; rfl)
        cases e
        exact h0
      have q1 : (R.1 != R.1) = false := by simp
      have hki : (k : Int) < ((k + 1 : Nat) : Int) := by omega
      clear hnG hnW lG lW
      go_upto_if 68 with (first
        | (go_at_call 13; (with_reducible refine (c_num _ _).mono ?_); rintro e wn ⟨rfl, hwn⟩; obtain rfl := hwn.symm)
        | (go_at_call 27; (with_reducible refine (c_sameP (R.2.getD []) _ _ _ _ _ _ W9 AG.out AW.out).mono ?_); rintro e w10 ⟨rfl, h10⟩; have x10 := keep h10 x9; have a10 := keep h10 a9; have d10 := keep h10 d0; have mc10 := keep h10 mc))
      have E10 := Lib.hid (ext_trans E9.out h10)
      have IVZ := Lib.hid (IV7.out.ext E10.out)
      have ROWZ := Lib.hid (up_ext OWN7.out E10.out)
      have NGZ := Lib.hid (NG9.out.ext h10)
      have NWZ := Lib.hid (NW9.out.ext h10)
      have EZ := Lib.hid (ext_trans E7.out E10.out)
      have AGZ := Lib.hid a10
      have DGZ := Lib.hid d10
      clear h10 x10 a10 d10 mc10 x9 a9 d0 mc q1 AG AW NG9 NW9 RA OWN7
      go_wp2
      obtain ⟨WZ, rfl⟩ : ∃ x : World, x = w10 := ⟨_, rfl⟩
      go_loopw [10] (fun v wj => ∃ i : Nat, i ≤ k ∧ v = .int .i64 (i : Int) ∧ Ext W wj ∧ OutS lo hi i WZ wj) (fun v _ => k - (intOf v).toNat)
      case atStart => exact ⟨0, by omega, rfl, EZ.out, OutS.refl _ _ _⟩
      case round =>
        obtain ⟨i, hik, rfl, hE, hO⟩ := hrel
        have x1 := keep hE XX.out
        have HE := Lib.hid hE
        have HO := Lib.hid hO
        have HQL : Hid (qs.length = k) := by
          show _ = _
          have h5 : (qs.map (·.1)).length = qs.length := List.length_map _
          rw [HMAP.out, HL.out] at h5
          omega
        by_cases hlt : i < k
        · obtain ⟨r, hr⟩ : ∃ x, rs[i]? = some x := ⟨_, List.getElem?_eq_getElem (by rw [HL.out]; omega)⟩
          obtain ⟨g, off, q', rfl, rfl, k0, k1, k2, okq⟩ := ruleIn_at (RW.out.keep hE) hr
          have hq0 := hr
          rw [← HMAP.out, List.getElem?_map] at hq0
          obtain ⟨q, hq, e1⟩ := Option.map_eq_some_iff.1 hq0
          obtain ⟨_, e2, m0, m1, m2⟩ := row_cells ROWZ.out (by rw [List.getElem?_append_left (by rw [HQL.out]; exact hlt)]; exact hq)
          cases e2
          have far : ∀ j, j < i → g7 < lo j ∨ hi j ≤ g7 := fun j hj => (IVZ.out.pos j (by rw [HQL.out]; omega)).2.2.2 g7 rfl
          have m0 := hO.cell far m0
          have m1 := hO.cell far m1
          have m2 := hO.cell far m2
          have OWJ := hO.own IVZ.out (Nat.le_refl _) hq
          obtain ⟨q1, qa, qb⟩ := q
          obtain rfl : q1 = q'.1 := e1
          obtain ⟨gh, ch, gb, cb, e3, OJ, _⟩ := OWJ.now
          dsimp only at e3
          cases e3
          dsimp only at m0 m1 m2
          have OQ : Hid (RuleV wr q'.1 q'.2.1.1 q'.2.1.2.1 q'.2.1.2.2 q'.2.2.1 q'.2.2.2.1 q'.2.2.2.2) := okq
          have HNH : q'.1.head.terms.length = q'.2.1.2.1 := OQ.out.terms.2.1
          have HNB : q'.1.body.length = q'.2.2.2.1 := OQ.out.body.2.1
          rw [HNH] at m1
          rw [HNB] at m2
          have OI : Hid (RuleV wr q'.1 (some ⟨gh, 0, none⟩) q'.2.1.2.1 ch (some ⟨gb, 0, none⟩) q'.2.2.2.1 cb) := OJ.rule OQ.out
          have HOJ := Lib.hid OJ
          have HQI := Lib.hid hq
          have HNHh := Lib.hid HNH
          have HNBh := Lib.hid HNB
          have HBR := Lib.hid (RuleB.of OQ.out)
          have hki : (i : Int) < (k : Int) := by omega
          have hki1 : (i : Int) < (k : Int) + 1 := by omega
          have hki0 : (0 : Int) ≤ (i : Int) := by omega
          have sx := World.block_lt_of_cell? wr ⟨w.heap.size, 0, none⟩ x1
          have s1 := World.block_lt_of_cell? wr ⟨g, _, none⟩ k0
          have s2 := World.block_lt_of_cell? wr ⟨g7, _, none⟩ m0
          have sx' : w.heap.size < wr.heap.size := sx
          have s1' : g < wr.heap.size := s1
          have s2' : g7 < wr.heap.size := s2
          have hd3 : Ext wr wr.drew := ext_drew (Below.refl _ _)
          have M0 := Lib.hid m0
          have M1 := Lib.hid m1
          have M2 := Lib.hid m2
          clear hr hE hO hq0 hq far OJ OWJ okq sx s1 s2 hlt HNH HNB
          go_upto_region 15 with (fail)
          go_cut [86] (fun v86 wc => v86 = .bool false ∧ Ext wr wc)
          case first =>
            go_region_held3 (fun w' => ∀ b o, b < wr.heap.size → w'.cell? ⟨b, o, none⟩ = wr.cell? ⟨b, o, none⟩)
              ((intro bb oo hbb; first | rfl | exact g6.cell (p := ⟨bb, oo, none⟩) hbb))
              (first
                | (go_at_call 24; (with_reducible refine (c_stays q'.1 gh _ ch gb _ cb _ _ _ _ _ _ _ _ (HOJ.out.ext hd3) (OI.out.keep hd3) (OQ.out.keep hd3)).mono ?_); rintro e w6 ⟨rfl, h6⟩; have g6 := ext_trans hd3 h6)
                | fail)
            all_goals
              go_wp2
              go_meet
              exact ⟨rfl, g6⟩
          case rest =>
            obtain ⟨rfl, e6⟩ := hcut
            have m0 := keep e6 M0.out
            have m1 := keep e6 M1.out
            have m2 := keep e6 M2.out
            have HO6 := Lib.hid (HO.out.ext e6)
            have HE6 := Lib.hid (ext_trans HE.out e6)
            clear e6 hd3 sx' s1' s2' k0 k1 k2 x1
            obtain ⟨gh', ch', gb', cb', e3, _, OC⟩ := (HO6.out.own IVZ.out (Nat.le_refl _) HQI.out).now
            dsimp only at e3
            cases e3
            have hhi : hi i ≤ wc.heap.size := Nat.le_trans (IVZ.out.pos i (by rw [HQL.out]; omega)).2.2.1 HO6.out.size
            have SP := Lib.hid (c_spoil q'.1 gh q'.2.1.2.1 ch gb q'.2.2.2.1 cb (lo i) (hi i) (cutW wc (hi i)) wc OC (cutW_size hhi) (cutW_ext hhi) HNHh.out HNBh.out OQ.out.body.1 (fun l hl => (HBR.out.lits l hl).1) OQ.out.terms.1)
            clear OC hhi
            have hnn := HN.out
            go_wp2_with (go_at_call 28; (with_reducible refine SP.out.mono ?_); rintro e w7 ⟨rfl, hlow, hhi⟩)
            have hO7 := HO6.out.step hlow hhi
            have hE7 : Ext W w7 := HE6.out.trans (hlow.mono (IVZ.out.pos i (by rw [HQL.out]; omega)).1)
            have HO7 := Lib.hid hO7
            have HE7 := Lib.hid hE7
            clear hlow hhi hO7 hE7
            go_roundw
            case rel => exact ⟨i + 1, by omega, by go_num, HE7.out, HO7.out⟩
            case measure => simp [intOf]; omega
        · obtain rfl : i = k := by omega
          have hge : ¬ (i : Int) < (i : Int) := by omega
          have hup : ∀ j, j < i → hi j ≤ w7.heap.size := fun j hj => (IV7.out.pos j (by rw [HQL.out]; exact hj)).2.2.1
          have a1 := hO.cell (fun j hj => .inr (Nat.le_trans (hup j hj) (by rw [HPA.out]; exact L8.out))) AGZ.out
          have d1 := hO.cell (fun j hj => .inr (Nat.le_trans (hup j hj) (by rw [HPD.out]; exact L9.out))) DGZ.out
          have AG : Hid (RulesAt wr aG nG (R.2.getD [])) := by have := (NGZ.out.same (hO.above hup)).rulesAt HNG.out hbG.out LG.out; rw [hmG.out] at this; exact this
          have AW : Hid (RulesAt wr aW nW (R.2.getD [])) := by have := (NWZ.out.same (hO.above hup)).rulesAt HNW.out hbW.out LW.out; rw [hmW.out] at this; exact this
          clear hO hE hlt
          go_wp2_with (go_at_call 27; (with_reducible refine (c_sameP (R.2.getD []) _ _ _ _ _ _ wr AG.out AW.out).mono ?_); rintro e w11 ⟨rfl, h11⟩)
          go_returns
          exact ⟨rfl, ext_trans hb0 (ext_trans HE.out h11)⟩
end Go.Proofs.Ytcphjfggjjonpaa
