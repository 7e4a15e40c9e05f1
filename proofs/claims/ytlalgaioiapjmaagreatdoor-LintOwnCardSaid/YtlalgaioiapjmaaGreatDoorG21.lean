/- The walk of the law's stays: a program of one's own is as it was, the marks too. -/
import Derived.Test.YtlalgaioiapjmaaGreatDoorG20
namespace Go.Proofs.YtlalgaioiapjmaaGreatDoor
open Go.ChangeShapes Go.WideShapes Go.ChangeAt Go.RowKit
open K (Rule Term Atom TermsAt LitsAt RuleV OwnR OwnT OwnL OwnTs)
theorem OwnPr.at {w : World} {base : Nat} {rs : List Rule} {g c : Nat} (h : OwnPr w base rs g c) {i : Nat} {r : Rule} (hr : rs[i]? = some r) : ∃ q : RuleP, q.1 = r ∧ OwnQ w base q ∧ w.cell? ⟨g, i * 3, none⟩ = some (.string r.head.pred) ∧ w.cell? ⟨g, i * 3 + 1, none⟩ = some (.slice (some ⟨q.2.1, 0, none⟩) r.head.terms.length q.2.2.1) ∧ w.cell? ⟨g, i * 3 + 2, none⟩ = some (.slice (some ⟨q.2.2.2.1, 0, none⟩) r.body.length q.2.2.2.2) := by
  obtain ⟨qs, h1, h2, h3⟩ := h.ex
  rw [← h1, List.getElem?_map] at hr
  obtain ⟨q, hq, rfl⟩ := Option.map_eq_some_iff.1 hr
  have hil := (List.getElem?_eq_some_iff.1 hq).1
  have C : ∀ j u, (valsR q)[j]? = some u → w.cell? ⟨g, i * 3 + j, none⟩ = some u := fun j u hu => by
    have hj : j < 3 := (List.getElem?_eq_some_iff.1 hu).1
    have := h2.cells (g := g) rfl (i * 3 + j) u (by rw [List.getElem?_append_left (by rw [flatR_len]; omega), flatR_get qs i j q hq hj]; exact hu)
    rw [Addr.add_lit, Nat.zero_add] at this
    exact this
  exact ⟨q, rfl, h3 q (List.mem_of_getElem? hq), C 0 _ rfl, C 1 _ rfl, C 2 _ rfl⟩
theorem OwnPr.mark {w : World} {base : Nat} {rs : List Rule} {g c : Nat} (h : OwnPr w base rs g c) : w.cell? ⟨g, rs.length * 3, none⟩ = some (.string ⟨#[60, 109, 97, 114, 107, 62]⟩) ∧ c ≤ maxLen := by
  obtain ⟨qs, h1, h2, h3⟩ := h.ex
  have hl : qs.length = rs.length := by rw [← h1, List.length_map]
  refine ⟨?_, ?_⟩
  · have := h2.cells (g := g) rfl (rs.length * 3) (.string ⟨#[60, 109, 97, 114, 107, 62]⟩) (by rw [List.getElem?_append_right (by rw [flatR_len]; omega), flatR_len, hl]; simp [markR])
    rw [Addr.add_lit, Nat.zero_add] at this
    exact this
  · rcases h2.2 with ⟨h1, _⟩ | ⟨g', c', cur, h1, _, _, _, hm, _⟩
    · cases h1
    · cases h1
      exact hm
set_option maxRecDepth 100000 in
set_option maxHeartbeats 4000000 in
theorem c_stays (rs : List Rule) (g c base : Nat) (a : Option Addr) (n ca : Nat) (w : World) (ho : OwnPr w base rs g c) (h : RulesAt w a n rs) :
    Calls Tryz.prog 11 #[.agg #[.slice (some ⟨g, 0, none⟩) n c], .agg #[.slice a n ca]] w fun e w' => e = .returned (.bool true) ∧ Ext w w' := by
  obtain rfl : rs.length = n := h.2.1
  have hL := ho.rules h
  have hn := h.1
  obtain ⟨mk, mfew⟩ := ho.mark
  have hcap := ho.cap
  have H := Lib.hid h
  have HL := Lib.hid hL
  have HO := Lib.hid ho
  have hm' : c ≤ 9223372036854775807 := by unfold maxLen at mfew; omega
  have q1 : (0 : Int) ≤ (rs.length : Int) := by omega
  have q2 : (rs.length : Int) < (c : Int) := by omega
  have q3 : (rs.length : Int) + 1 ≤ (c : Int) := by omega
  have q5 : (0 : Int) ≤ (rs.length : Int) + 1 := by omega
  have q6 : IntKind.i64.wrap ((rs.length : Int) + 1) = (rs.length : Int) + 1 := by rw [IntKind.wrap_i64]; omega
  have q8 : (rs.length : Int) < (rs.length : Int) + 1 := by omega
  have q9 : ¬ (c : Int) ≤ (rs.length : Int) := by omega
  have q10 : ((rs.length : Int) != (rs.length : Int)) = false := by simp
  clear ho h hL mfew
  go_enter Tryz.func11, Tryz.ntmps11
  go_upto_region 1 with (fail)
  refine wp_gen (fun W hW => ?_)
  have E0 : Ext w W := by rw [hW]; exact ext_alloc (ext_alloc (Below.refl _ _) _) _
  have t0 : W.cell? ⟨w.heap.size, 0, none⟩ = some (.slice (some ⟨g, 0, none⟩) rs.length c) := by rw [hW]; go_simp
  have p0 : W.cell? ⟨w.heap.size + 1, 0, none⟩ = some (.slice a rs.length ca) := by rw [hW]; go_simp
  have mk := keep E0 mk
  have HE0 := Lib.hid E0
  obtain ⟨tb, htb⟩ : ∃ tb, w.heap.size = tb := ⟨_, rfl⟩
  rw [htb] at t0 p0 ⊢
  obtain ⟨pb, hpb⟩ : ∃ pb, tb + 1 = pb := ⟨_, rfl⟩
  rw [hpb] at p0 ⊢
  clear hW E0 htb hpb
  obtain ⟨ln, hln⟩ : ∃ ln, rs.length = ln := ⟨_, rfl⟩
  have HLN := Lib.hid hln
  rw [hln] at t0 p0 mk hn hcap q1 q2 q3 q5 q6 q8 q9 q10 ⊢
  rw [hln] at H HL
  clear hln
  go_upto_block 0 with (fail)
  go_wp2
  go_loopw [6] (fun v wr => ∃ k : Nat, k ≤ ln ∧ v = .int .i64 (k : Int) ∧ Ext W wr) (fun v _ => ln - (intOf v).toNat)
  case atStart => exact ⟨0, Nat.zero_le _, rfl, Below.refl _ _⟩
  case round =>
    obtain ⟨k, hk, rfl, hE⟩ := hrel
    have HE := Lib.hid hE
    have HEw := Lib.hid (ext_trans HE0.out hE)
    by_cases hlt : ¬ k < ln
    · have hki : ¬ (k : Int) < (ln : Int) := by omega
      clear hE
      go_wp2
      go_returns
      exact ⟨rfl, HEw.out⟩
    · have hlt : k < ln := by omega
      have hki : (k : Int) < (ln : Int) := by omega
      obtain ⟨r, b, off, hrk, rfl, ah, nh', ch', ab, nb', cb', y0, y1, y2, hrv⟩ := (H.out.keep HEw.out).2.at hlt
      obtain ⟨q, hqr, oq, z0, z1, z2⟩ := (HO.out.ext HEw.out).at hrk
      obtain ⟨qr, gh, ch, gb, cb⟩ := q
      dsimp only at hqr z1 z2
      subst hqr
      have rv2 : RuleV wr qr (some ⟨gh, 0, none⟩) nh' ch (some ⟨gb, 0, none⟩) nb' cb := OwnR.rule oq hrv
      obtain rfl : qr.head.terms.length = nh' := hrv.terms.2.1
      have MH := K.OwnT.mark oq.head
      obtain ⟨ps, hps, hLb, _⟩ := oq.body
      have hpl : ps.length = qr.body.length := by rw [← hps, List.length_map]
      obtain ⟨mb1, mb2, mb3⟩ := K.OwnL.mark hLb
      dsimp only at mb1 mb2 mb3 MH hps hpl
      rw [hpl] at mb1 mb3
      obtain ⟨nb, hnb⟩ : ∃ nb, qr.body.length = nb := ⟨_, rfl⟩
      have hnbn : nb' = nb := by rw [← hnb]; exact hrv.body.2.1.symm
      rw [hnb] at z2 mb1 mb3
      rw [hnbn] at y2 hrv rv2
      have hnbl := hrv.body.1
      have CS : Hid (∀ w5, Ext wr w5 → Calls Tryz.prog 24 #[.agg #[.string qr.head.pred, .slice (some ⟨gh, 0, none⟩) qr.head.terms.length ch, .slice (some ⟨gb, 0, none⟩) nb cb], .agg #[.string qr.head.pred, .slice ah qr.head.terms.length ch', .slice ab nb cb']] w5 fun e w' => e = .returned (.bool true) ∧ Ext w5 w') := fun w5 e => by
        have := K.c_SameR qr qr _ _ _ _ _ _ _ _ _ _ _ _ w5 (rv2.keep e) (hrv.keep e)
        rw [decide_eq_true rfl] at this
        exact this
      have CM : Hid (∀ w5, Ext wr w5 → Calls Tryz.prog 25 #[.agg #[.string qr.head.pred, .slice (some ⟨gh, 0, none⟩) qr.head.terms.length ch]] w5 fun e w' => e = .returned (.bool true) ∧ Ext w5 w') := fun w5 e => K.c_marked qr.head.pred gh qr.head.terms.length ch w5 MH.1 MH.2.1 (keep e MH.2.2)
      have s1 : (nb : Int) < (cb : Int) := by omega
      have s2 : (nb : Int) + 1 ≤ (cb : Int) := by omega
      have s3 : IntKind.i64.wrap ((nb : Int) + 1) = (nb : Int) + 1 := by rw [IntKind.wrap_i64]; omega
      have s4 : (0 : Int) ≤ (nb : Int) + 1 := by omega
      have s5 : (nb : Int) < (nb : Int) + 1 := by omega
      have s6 : ¬ (cb : Int) ≤ (nb : Int) := by omega
      have s7 : (0 : Int) ≤ (nb : Int) := by omega
      have s8 : decide (cb ≤ nb) = false := by simp; omega
      have s9 : decide ((cb : Int) ≤ (nb : Int)) = false := by simp; omega
      have s10 : ¬ cb ≤ nb := by omega
      have hcb : cb ≤ 9223372036854775807 := by unfold maxLen at mb2; omega
      have t1 := keep hE t0
      have p1 := keep hE p0
      have OQ := Lib.hid oq
      have HNB := Lib.hid hnb
      have HLT := Lib.hid hlt
      obtain ⟨r, hr⟩ : ∃ r, r = qr := ⟨_, rfl⟩
      subst hr
      have CE : Hid (∀ w', Ext wr w' → (w'.cell? ⟨tb, 0, none⟩ = some (.slice (some ⟨g, 0, none⟩) ln c) ∧ w'.cell? ⟨pb, 0, none⟩ = some (.slice (some ⟨b, off, none⟩) ln ca) ∧ w'.cell? ⟨g, k * 3, none⟩ = some (.string r.head.pred) ∧ w'.cell? ⟨g, k * 3 + 1, none⟩ = some (.slice (some ⟨gh, 0, none⟩) r.head.terms.length ch) ∧ w'.cell? ⟨g, k * 3 + 2, none⟩ = some (.slice (some ⟨gb, 0, none⟩) nb cb) ∧ w'.cell? ⟨b, off + k * 3, none⟩ = some (.string r.head.pred) ∧ w'.cell? ⟨b, off + k * 3 + 1, none⟩ = some (.slice ah r.head.terms.length ch') ∧ w'.cell? ⟨b, off + k * 3 + 2, none⟩ = some (.slice ab nb cb') ∧ w'.cell? ⟨gb, nb * 8, none⟩ = some (.int .i64 (-77)))) := fun w' e => ⟨keep e t1, keep e p1, keep e z0, keep e z1, keep e z2, keep e y0, keep e y1, keep e y2, keep e mb3⟩
      have C0 := Lib.hid (CE.out wr.drew (ext_drew (Below.refl _ _)))
      have mixed : Tryz.prog.follows .mixedOrders = true := by kernel_rfl
      clear hE hrv rv2 oq hps hLb hpl mb1 mb2 MH hnb hnbn y0 y1 y2 z0 z1 hrk
      go_upto_region 8 with (fail)
      clear t1 p1 mb3 z2
      go_region_held3 (fun w' => w'.cell? ⟨tb, 0, none⟩ = some (.slice (some ⟨g, 0, none⟩) ln c) ∧ w'.cell? ⟨pb, 0, none⟩ = some (.slice (some ⟨b, off, none⟩) ln ca) ∧ w'.cell? ⟨g, k * 3, none⟩ = some (.string r.head.pred) ∧ w'.cell? ⟨g, k * 3 + 1, none⟩ = some (.slice (some ⟨gh, 0, none⟩) r.head.terms.length ch) ∧ w'.cell? ⟨g, k * 3 + 2, none⟩ = some (.slice (some ⟨gb, 0, none⟩) nb cb) ∧ w'.cell? ⟨b, off + k * 3, none⟩ = some (.string r.head.pred) ∧ w'.cell? ⟨b, off + k * 3 + 1, none⟩ = some (.slice ah r.head.terms.length ch') ∧ w'.cell? ⟨b, off + k * 3 + 2, none⟩ = some (.slice ab nb cb') ∧ w'.cell? ⟨gb, nb * 8, none⟩ = some (.int .i64 (-77))) (first | (with_reducible exact C0.out) | (with_reducible exact C1.out) | (with_reducible exact C2.out) | fail) (first | (go_at_call 24; (with_reducible refine (CS.out _ (ext_drew (Below.refl _ _))).mono ?_); rintro e w6 ⟨rfl, E6⟩; have F6 : Ext wr w6 := ext_trans (ext_drew (Below.refl _ _)) E6; have C1 := Lib.hid (CE.out w6 F6)) | (go_at_call 25; (with_reducible refine (CM.out _ F6).mono ?_); rintro e w7 ⟨rfl, E7⟩; have F7 : Ext wr w7 := ext_trans F6 E7; have C2 := Lib.hid (CE.out w7 F7)) | fail)
      have HF7 := Lib.hid F7
      have OQ7 : Hid (OwnR w7 base r gh ch gb cb) := OwnR.ext OQ.out F7
      clear CS CM CE C0 C1 C2 F6 F7 E6 E7 s1 s2 s3 s4 s5 s6 s8 s9 s10 hcb
      go_wp2
      go_loopw [8] (fun v wj => ∃ j : Nat, j ≤ nb ∧ v = .int .i64 (j : Int) ∧ Ext w7 wj) (fun v _ => nb - (intOf v).toNat)
      case atStart => exact ⟨0, Nat.zero_le _, rfl, Below.refl _ _⟩
      case round =>
        obtain ⟨j, hj, rfl, hE7⟩ := hrel
        have HE7 := Lib.hid hE7
        by_cases hjl : ¬ j < nb
        · have hji : ¬ (j : Int) < (nb : Int) := by omega
          clear hE7
          go_wp2
          refine ⟨⟨k + 1, HLT.out, by go_num, ext_trans HE.out (ext_trans HF7.out HE7.out)⟩, ?_⟩
          have := HLT.out
          simp [intOf]
          omega
        · have hjl : j < nb := by omega
          have hji : (j : Int) < (nb : Int) := by omega
          obtain ⟨l, hl⟩ : ∃ l, r.body[j]? = some l := ⟨_, List.getElem?_eq_getElem (by have := HNB.out; omega)⟩
          obtain ⟨lg, lc, v1, v2, ot⟩ := K.OwnR.lit_at (OwnR.ext OQ7.out hE7) hl
          obtain ⟨m1, m2, m3⟩ := K.OwnT.mark ot
          have CM := Lib.hid (K.c_marked l.atom.pred lg l.atom.terms.length lc wr m1 m2 m3)
          have HJL := Lib.hid hjl
          clear hE7 ot hl m1 m2 m3
          go_wp2_with (go_at_call 25; (with_reducible refine CM.out.mono ?_); rintro e w8 ⟨rfl, E8⟩)
          go_roundw
          case rel => exact ⟨j + 1, HJL.out, by go_num, ext_trans HE7.out E8⟩
          case measure => have := HJL.out; simp [intOf]; omega
end Go.Proofs.YtlalgaioiapjmaaGreatDoor
