/- The walk of schema.Safe. -/
import Derived.Test.YtlalgaioiapjmaaGreatDoorG10
import Derived.Deep.CutBlock
namespace Go.Proofs.YtlalgaioiapjmaaGreatDoor
open Go.ChangeShapes Go.WideShapes Go.ChangeAt Go.RowKit
open K (Term Rule RuleV TermsAt LitsAt StrsAt boundR varK breachB headBad negBad cmpBad litBad safeR)
def SafePost (b : Bool) (w : World) (e : Ending) (w' : World) : Prop := ∃ (k i j : Int) (s : ByteArray), e = .returned (.tuple #[.agg #[.int .i64 k, .int .i64 i, .int .i64 j, .string s], .bool b]) ∧ Ext w w'
theorem two_terms (w : World) (t u : Term) (ht : t.text.size ≤ maxLen) (hu : u.text.size ≤ maxLen) : TermsAt (w.alloc (.cells #[.int .i64 t.kind, .string t.text, .int .i64 u.kind, .string u.text] 42)) (some ⟨w.heap.size, 0, none⟩) 2 [t, u] := by
  refine ⟨by decide, rfl, fun i x hx => ⟨_, _, rfl, ?_⟩⟩
  match i with
  | 0 => cases hx; exact ⟨by go_simp, by go_simp, ht⟩
  | 1 => cases hx; exact ⟨by go_simp, by go_simp, hu⟩
  | i + 2 => simp at hx
theorem res_safe {tmps : Array Value} {w : World} {b : Nat} {k i j : Int} {s : ByteArray} {v : Value} (ht : tmps.getD 2 undef = .pointer (some ⟨b, 0, none⟩)) (hv : tmps.getD 3 undef = v) (h : Blk w b 144 [.int .i64 k, .int .i64 i, .int .i64 j, .string s]) : (results Tryz.f93 tmps).run Tryz.prog w = .ok (.tuple #[.agg #[.int .i64 k, .int .i64 i, .int .i64 j, .string s], v]) w := by
  have h0 := h.cell (i := 0) rfl
  have h1 := h.cell (i := 1) rfl
  have h2 := h.cell (i := 2) rfl
  have h3 := h.cell (i := 3) rfl
  have ht' : tmps[2]?.getD undef = .pointer (some ⟨b, 0, none⟩) := by rw [← ht]; simp
  have hv' : tmps[3]?.getD undef = v := by rw [← hv]; simp
  simp only [results, Tryz.f93]
  go_simp
theorem Blk.drew {w : World} {b : Nat} {t : TypeId} {cs : List Value} (h : Blk w b t cs) : Blk w.drew b t cs := h
set_option maxRecDepth 100000 in
set_option maxHeartbeats 4000000 in
theorem c_safe (r : Rule) (ah : Option Addr) (nh ch : Nat) (ab : Option Addr) (nb cb : Nat) (w : World) (hr : RuleV w r ah nh ch ab nb cb) (hv : (boundR r).length ≤ 1000000) :
    Calls Tryz.prog 93 #[.agg #[.string r.head.pred, .slice ah nh ch, .slice ab nb cb]] w (SafePost (safeR r) w) := by
  have hn := hr.body.1
  have HL := Lib.hid hr.body.2.1
  have HR := Lib.hid hr
  have E00 : Hid (∀ o o', Ext w ((w.alloc o).alloc o')) := fun o o' => ext_alloc (ext_alloc (Below.refl _ _) _) _
  have BD : Hid (∀ W, Ext w W → Calls Tryz.prog 118 #[.agg #[.string r.head.pred, .slice ah nh ch, .slice ab nb cb]] W (VarsPost (boundR r) W)) := fun W hW => c_bound r ah nh ch ab nb cb W (hr.keep hW) hv
  obtain ⟨xs, hxs⟩ : ∃ xs, boundR r = xs := ⟨_, rfl⟩
  have HXS := Lib.hid hxs
  rw [hxs] at BD
  clear hr hv hxs
  have nqb := neq_breach
  have eqb := eql_breach
  have R0 : Hid ((w.alloc (.cells #[.string r.head.pred, .slice ah nh ch, .slice ab nb cb] 50)).cell? ⟨w.heap.size, 1, none⟩ = some (.slice ah nh ch) ∧ (w.alloc (.cells #[.string r.head.pred, .slice ah nh ch, .slice ab nb cb] 50)).cell? ⟨w.heap.size, 2, none⟩ = some (.slice ab nb cb)) := ⟨by go_simp, by go_simp⟩
  have B2 := Lib.hid (brBlk (w.alloc (.cells #[.string r.head.pred, .slice ah nh ch, .slice ab nb cb] 50)))
  rw [World.size_alloc] at B2
  obtain rfl : r.body.length = nb := HL.out
  obtain ⟨hb, hhb⟩ : ∃ q, r.head.terms.any (headBad r xs) = q := ⟨_, rfl⟩
  have HHB := Lib.hid hhb
  clear hhb
  go_enter Tryz.func93, Tryz.ntmps93
  go_upto_block 0 with (first
    | (go_at_call 118; (with_reducible refine (BD.out _ (E00.out _ _)).mono ?_); rintro e w2 ⟨a2, ca, rfl, S2, E2⟩; have d1 := keep (ext_trans (ext_trans (ext_alloc (Below.refl _ _) _) E2) (ext_alloc (Below.refl _ _) (.cells #[.slice a2 xs.length ca] 25))) R0.out.1)
    | (go_at_call 119; have E4 : Ext w (w2.alloc (.cells #[.slice a2 xs.length ca] 25)) := ext_alloc (ext_trans (E00.out _ _) E2) _; have d2 := keep (ext_trans (ext_trans (ext_alloc (Below.refl _ _) _) E2) (ext_alloc (Below.refl _ _) (.cells #[.slice a2 xs.length ca] 25))) R0.out.2; have d4 : (w2.alloc (.cells #[.slice a2 xs.length ca] 25)).cell? ⟨w2.heap.size, 0, none⟩ = some (.slice a2 xs.length ca) := (by go_simp); have S4 := S2.keep (ext_alloc (Below.refl _ _) (.cells #[.slice a2 xs.length ca] 25)); have F1 := c_first1 r.head.terms ah nh ch (-1) (.pointer (some ⟨w2.heap.size, 0, none⟩)) (.pointer (some ⟨w.heap.size, 0, none⟩)) (headBad r xs) _ (HR.out.terms.keep E4) (fun t _ W hW => c_safe1 r t xs ⟨w2.heap.size, 0, none⟩ w.heap.size a2 xs.length ca ab cb W (keep hW d4) (S4.keep hW) (keep hW d2)); have sz2 : w.heap.size + 1 < w2.heap.size := World.block_lt_of_cell? w2 ⟨w.heap.size + 1, 0, none⟩ (B2.out.ext E2).br.1.1; have B24 := B2.out.ext (ext_trans E2 (ext_alloc (Below.refl _ _) (.cells #[.slice a2 xs.length ca] 25))); (with_reducible refine F1.mono ?_); rintro e w5 ⟨k1, i1, j1, s1, rfl, hq1, E5⟩; have d25 := fun o => keep (ext_trans E5 (ext_alloc (Below.refl _ _) o)) d2))
  refine wp_gen (fun W hW => ?_)
  have hE0 : Ext (w2.alloc (.cells #[.slice a2 xs.length ca] 25)) W := by rw [hW]; exact ext_alloc E5 _
  have hB0 : Blk W w5.heap.size 144 (brC k1 i1 j1 s1) := by rw [hW]; exact Blk.new w5 _ _
  have sz5 : w2.heap.size < w5.heap.size := World.block_lt_of_cell? w5 ⟨w2.heap.size, 0, none⟩ (keep E5 d4)
  have szw4 : (w2.alloc (.cells #[.slice a2 xs.length ca] 25)).heap.size = w2.heap.size + 1 := World.size_alloc _ _
  obtain ⟨w4, hw4⟩ : ∃ w4, w2.alloc (.cells #[.slice a2 xs.length ca] 25) = w4 := ⟨_, rfl⟩
  rw [hw4] at hE0 E4 d2 d4 S4 B24 szw4
  obtain ⟨b4, hb4⟩ : ∃ b4, w2.heap.size = b4 := ⟨_, rfl⟩
  obtain ⟨b5, hb5⟩ : ∃ b5, w5.heap.size = b5 := ⟨_, rfl⟩
  obtain ⟨b2, hb2⟩ : ∃ b2, w.heap.size + 1 = b2 := ⟨_, rfl⟩
  have SZ : Hid (w4.heap.size ≤ b5 ∧ w.heap.size ≤ b5 ∧ b2 < w4.heap.size ∧ w.heap.size ≤ b2) := ⟨by omega, by omega, by omega, by omega⟩
  have HQ1 : Hid (brN k1 i1 j1 s1 = hb) := hq1.trans HHB.out
  rw [hb4] at d4 ⊢
  rw [hb5] at hB0 ⊢
  rw [hb2] at B24 ⊢
  have HE4 := Lib.hid E4
  have HD4 := Lib.hid d4
  have HS4 := Lib.hid S4
  have HB24 := Lib.hid B24
  clear hW d1 E2 S2 F1 E5 d25 hq1 hw4 hb4 hb5 hb2 szw4 sz5 sz2 E4 d4 S4 B24 d2 BD R0 B2 E00
  obtain ⟨big, hbig⟩ : ∃ big, (hb || r.body.any (litBad xs)) = big := ⟨_, rfl⟩
  have HBIG := Lib.hid hbig
  clear hbig
  go_cut [] (fun wc => Ext w4 wc ∧ ∃ kk ii jj ss, Blk wc b5 144 (brC kk ii jj ss) ∧ brN kk ii jj ss = big)
  case first =>
    go_wp2
    go_loopw [18] (fun v wr => ∃ k : Nat, k ≤ r.body.length ∧ v = .int .i64 (k : Int) ∧ Ext w4 wr ∧ ∃ kk ii jj ss, Blk wr b5 144 (brC kk ii jj ss) ∧ brN kk ii jj ss = (hb || (r.body.take k).any (litBad xs))) (fun v _ => r.body.length - (intOf v).toNat)
    case atStart => exact ⟨0, Nat.zero_le _, rfl, hE0, _, _, _, _, hB0, by rw [HQ1.out]; simp⟩
    case round =>
      obtain ⟨k, hk, rfl, E, kk, ii, jj, ss, B, hq⟩ := hrel
      obtain ⟨⟨x0, x1, x2, x3⟩, y0, y1, y2, y3⟩ := B.br
      have HB := Lib.hid B
      have HE := Lib.hid E
      have HQ := Lib.hid hq
      obtain ⟨q, hqq⟩ : ∃ q, brN kk ii jj ss = q := ⟨_, rfl⟩
      by_cases hlt : k < r.body.length
      · have hki : (k : Int) < (r.body.length : Int) := by omega
        obtain ⟨l, eb, eo, hx, rfl, al, nl, cl, c0, c1, c2, c3, c4, c5, c6, c7, ht, _, _, hl8, hl9⟩ := ((HR.out.keep HE4.out).keep E).body.2.at hlt
        have HX := Lib.hid hx
        have x0o := fun o => (HB.out.ext (ext_alloc (Below.refl _ wr) o)).br.1.1
        have x1o := fun o => (HB.out.ext (ext_alloc (Below.refl _ wr) o)).br.1.2.1
        have x2o := fun o => (HB.out.ext (ext_alloc (Below.refl _ wr) o)).br.1.2.2.1
        have x3o := fun o => (HB.out.ext (ext_alloc (Below.refl _ wr) o)).br.1.2.2.2
        have HTK : Hid ((r.body.take (k + 1)).any (litBad xs) = ((r.body.take k).any (litBad xs) || litBad xs l)) := by
          show _ = _
          rw [take_at hx, List.any_append]
          simp
        have HMEM : Hid (l ∈ r.body) := List.mem_of_getElem? hx
        have HT := Lib.hid ht
        have HXL := Lib.hid (And.intro hl8 hl9)
        clear E B hq hx ht
        cases q with
        | true =>
          have HBG : Hid (big = true) := by
            show _ = _
            have h1 := HQ.out
            rw [hqq] at h1
            rw [← HBIG.out]
            cases hb with
            | true => rfl
            | false =>
              obtain ⟨y, hy, hy2⟩ := List.any_eq_true.1 h1.symm
              exact List.any_eq_true.2 ⟨y, List.mem_of_mem_take hy, hy2⟩
          clear HQ HTK HMEM HT HXL
          go_wp2
          go_meet
          exact ⟨ext_alloc HE.out _, kk, ii, jj, ss, HB.out.ext (ext_alloc (Below.refl _ _) _), by rw [hqq, HBG.out]⟩
        | false =>
          have HQ2 : Hid (hb = false ∧ (r.body.take k).any (litBad xs) = false) := by
            have h1 := HQ.out
            rw [hqq] at h1
            exact Bool.or_eq_false_iff.1 h1.symm
          obtain ⟨w1, hw1⟩ : ∃ w1, w1 = wr.alloc (.cells #[.int .i64 l.kind, .string l.atom.pred, .slice al nl cl, .int .i64 l.op, .int .i64 l.left.kind, .string l.left.text, .int .i64 l.right.kind, .string l.right.text] 47) := ⟨_, rfl⟩
          have E1 : Hid (Ext wr w1) := by show Ext _ _; rw [hw1]; exact ext_alloc (Below.refl _ _) _
          have E41 := Lib.hid (ext_trans HE.out E1.out)
          have B1 := Lib.hid (HB.out.ext E1.out)
          have HD1 : Hid (∀ W, Ext w1 W → W.cell? ⟨b4, 0, none⟩ = some (.slice a2 xs.length ca) ∧ StrsAt W a2 xs.length xs) := fun W hW => ⟨keep (ext_trans E41.out hW) HD4.out, HS4.out.keep (ext_trans E41.out hW)⟩
          have T1 := Lib.hid (HT.out.keep E1.out)
          have FIN : Hid (∀ (q7 : Bool) (w6 w7 : World) (k6 i6 j6 : Int) (s6 : ByteArray), litBad xs l = q7 → brN k6 i6 j6 s6 = q7 → Ext w1 w6 → w7 = (((w6.setCell ⟨b5, 0, none⟩ (.int .i64 k6)).setCell ⟨b5, 1, none⟩ (.int .i64 i6)).setCell ⟨b5, 2, none⟩ (.int .i64 j6)).setCell ⟨b5, 3, none⟩ (.string s6) → Ext w4 w7 ∧ ∃ kk ii jj ss, Blk w7 b5 144 (brC kk ii jj ss) ∧ brN kk ii jj ss = (hb || (r.body.take (k + 1)).any (litBad xs))) := fun q7 w6 w7 k6 i6 j6 s6 h1 h2 h3 h4 => by
            subst h4
            refine ⟨ext_put4 (ext_trans E41.out h3) SZ.out.1 _ _ _ _, k6, i6, j6, s6, (B1.out.ext h3).put4 _ _ _ _, ?_⟩
            rw [HTK.out, HQ2.out.1, HQ2.out.2, h1, h2]
            rfl
          have HTK2 := Lib.hid HTK.out
          clear HQ HTK HT
          by_cases hk2 : l.kind = 2
          · have LB : Hid (litBad xs l = l.atom.terms.any (negBad xs)) := by
              show _ = _
              unfold litBad
              rw [if_pos hk2]
            rw [hk2] at c0 hw1
            have F2 := Lib.hid (c_first2 l.atom.terms al nl cl (k : Int) (.pointer (some ⟨b4, 0, none⟩)) (negBad xs) w1 T1.out (fun t _ W hW => c_safe2 t xs ⟨b4, 0, none⟩ a2 xs.length ca W (HD1.out W hW).1 (HD1.out W hW).2))
            rw [hw1] at F2
            have HW1 := Lib.hid hw1
            clear hk2 hw1
            go_wp2_with (go_at_call 119; (with_reducible refine F2.out.mono ?_); rintro e w6 ⟨k6, i6, j6, s6, rfl, hq6, E6⟩; obtain ⟨⟨g0, g1, g2, g3⟩, f0, f1, f2, f3⟩ := (B1.out.ext (HW1.out ▸ E6)).br)
            go_roundw
            case rel => exact ⟨k + 1, by omega, by go_num, FIN.out _ _ _ _ _ _ _ LB.out hq6 (HW1.out ▸ E6) rfl⟩
            case measure => simp [intOf]; omega
          · have k2 : (l.kind == 2) = false := by simpa using hk2
            by_cases hk3 : l.kind = 3
            · have LB : Hid (litBad xs l = [l.left, l.right].any (cmpBad xs)) := by
                show _ = _
                unfold litBad
                rw [if_neg hk2, if_pos hk3]
                simp
              have E12 : Hid (Ext w1 (w1.alloc (.cells #[.int .i64 l.left.kind, .string l.left.text, .int .i64 l.right.kind, .string l.right.text] 42))) := ext_alloc (Below.refl _ _) _
              have F3 := Lib.hid (c_first3 [l.left, l.right] (some ⟨w1.heap.size, 0, none⟩) 2 2 (k : Int) (.pointer (some ⟨b4, 0, none⟩)) (cmpBad xs) _ (two_terms w1 l.left l.right HXL.out.1 HXL.out.2) (fun t _ W hW => c_safe3 t xs ⟨b4, 0, none⟩ a2 xs.length ca W (HD1.out W (ext_trans E12.out hW)).1 (HD1.out W (ext_trans E12.out hW)).2))
              have HF : Hid (∀ w6, Ext (w1.alloc (.cells #[.int .i64 l.left.kind, .string l.left.text, .int .i64 l.right.kind, .string l.right.text] 42)) w6 → Ext w1 w6) := fun w6 h => ext_trans E12.out h
              rw [hk3] at c0 hw1
              clear hk2 k2 E12
              rw [hw1] at F3 HF
              simp only [World.size_alloc] at F3
              have HW1 := Lib.hid hw1
              clear hk3 hw1
              go_wp2_with (go_at_call 119; (with_reducible refine F3.out.mono ?_); rintro e w6 ⟨k6, i6, j6, s6, rfl, hq6, E6⟩; obtain ⟨⟨g0, g1, g2, g3⟩, f0, f1, f2, f3⟩ := (B1.out.ext (HW1.out ▸ HF.out w6 E6)).br)
              go_roundw
              case rel => exact ⟨k + 1, by omega, by go_num, FIN.out _ _ _ _ _ _ _ LB.out hq6 (HW1.out ▸ HF.out w6 E6) rfl⟩
              case measure => simp [intOf]; omega
            · have k3 : (l.kind == 3) = false := by simpa using hk3
              have LB : Hid (litBad xs l = false) := by
                show _ = _
                unfold litBad
                rw [if_neg hk2, if_neg hk3]
              have FI2 : Hid ((hb || (r.body.take (k + 1)).any (litBad xs)) = false) := by
                show _ = _
                rw [HTK2.out, HQ2.out.1, HQ2.out.2, LB.out]
                rfl
              clear hk2 hk3 hw1
              go_wp2
              go_roundw
              case rel => exact ⟨k + 1, by omega, by go_num, ext_alloc HE.out _, kk, ii, jj, ss, HB.out.ext (ext_alloc (Below.refl _ _) _), by rw [FI2.out, hqq]⟩
              case measure => simp [intOf]; omega
      · have hge : ¬ (k : Int) < (r.body.length : Int) := by omega
        go_wp2
        go_meet
        refine ⟨HE.out, kk, ii, jj, ss, HB.out, ?_⟩
        rw [hqq, ← HBIG.out, ← hqq, HQ.out, List.take_of_length_le (Nat.le_of_not_lt hlt)]
  case rest =>
    obtain ⟨E, kk, ii, jj, ss, B, hq⟩ := hcut
    have HB := Lib.hid B
    have HE := Lib.hid E
    have HSF : Hid (safeR r = !big) := by
      show _ = _
      unfold safeR
      rw [HXS.out, HHB.out, HBIG.out]
    have n25 : ¬ b5 = b2 := by have := SZ.out; omega
    have n52 : ¬ b2 = b5 := by have := SZ.out; omega
    have BZ := Lib.hid (HB24.out.ext E)
    obtain ⟨⟨v0, v1, v2, v3⟩, f0, f1, f2, f3⟩ := HB.out.br
    obtain ⟨⟨z0, z1, z2, z3⟩, t0, t1, t2, t3⟩ := BZ.out.br
    clear E B
    go_wp2
    go_region_law (fail)
    all_goals
      go_wp2
      refine bodyPost_ret (res_safe (v := .bool (!big)) rfl rfl (BZ.out.drew.put4 _ _ _ _)) rfl ?_
      exact ⟨kk, ii, jj, ss, by rw [HSF.out], ext_put4 (ext_drew (ext_trans HE4.out HE.out)) SZ.out.2.2.2 _ _ _ _⟩
end Go.Proofs.YtlalgaioiapjmaaGreatDoor
