/- The walks of the law's marked and stays: a rule of one's own is as it was, the marks behind its lists too. -/
import Derived.Test.YtcphjfggjjonpaaSameR
import Derived.Test.YtcphjfggjjonpaaClone
namespace Go.Proofs.Ytcphjfggjjonpaa
open Go.ChangeShapes Go.WideShapes Go.ChangeAt Go.RowKit
theorem c_marked (p : ByteArray) (g n cap : Nat) (w : World) (hc : n + 1 ≤ cap) (hm : cap ≤ maxLen) (hk : w.cell? ⟨g, n * 2, none⟩ = some (.int .i64 (-77))) :
    Calls Try.prog 47 #[.agg #[.string p, .slice (some ⟨g, 0, none⟩) n cap]] w fun e w' => e = .returned (.bool true) ∧ Ext w w' := by
  have hm' : cap ≤ 9223372036854775807 := by unfold maxLen at hm; omega
  clear hm
  have q1 : (0 : Int) ≤ (n : Int) := by omega
  have q2 : (n : Int) < (cap : Int) := by omega
  have q3 : (n : Int) + 1 ≤ (cap : Int) := by omega
  have q5 : (0 : Int) ≤ (n : Int) + 1 := by omega
  have q6 : wrap64 ((n : Int) + 1) = (n : Int) + 1 := by unfold wrap64; omega
  have q8 : (n : Int) < (n : Int) + 1 := by omega
  have hgl : g < w.heap.size := World.block_lt_of_cell? w ⟨g, _, none⟩ hk
  have hk' : ∀ o, (w.alloc o).cell? ⟨g, n * 2, none⟩ = some (.int .i64 (-77)) := fun o => keep (ext_alloc (Below.refl _ _) o) hk
  go_enter Try.func47, Try.ntmps47
  go_wp2
  go_returns
  exact ⟨rfl, ext_alloc (Below.refl _ _) _⟩
theorem OwnT.mark {w : World} {base : Nat} {ts : List Term} {g cap : Nat} (h : OwnT w base ts g cap) : ts.length + 1 ≤ cap ∧ cap ≤ maxLen ∧ w.cell? ⟨g, ts.length * 2, none⟩ = some (.int .i64 (-77)) := by
  refine ⟨h.2, ?_, ?_⟩
  · rcases h.1.2 with ⟨h1, _⟩ | ⟨g', c', cur, h1, _, _, _, hm, _⟩
    · cases h1
    · cases h1
      exact hm
  · obtain ⟨g1, _⟩ := flatT_get (ts ++ [markT]) ts.length markT (by simp)
    have := h.1.cells (g := g) rfl _ _ g1
    rw [Addr.add_lit, Nat.zero_add] at this
    exact this
theorem OwnL.mark {w : World} {base : Nat} {ps : List (Lit × Nat × Nat)} {g cap : Nat} (h : OwnL w base ps g cap) : ps.length + 1 ≤ cap ∧ cap ≤ maxLen ∧ w.cell? ⟨g, ps.length * 8, none⟩ = some (.int .i64 (-77)) := by
  refine ⟨h.2, ?_, ?_⟩
  · rcases h.1.2 with ⟨h1, _⟩ | ⟨g', c', cur, h1, _, _, _, hm, _⟩
    · cases h1
    · cases h1
      exact hm
  · have := h.1.cells (g := g) rfl (ps.length * 8) (.int .i64 (-77)) (by rw [List.getElem?_append_right (by rw [flatL_len]; omega), flatL_len]; simp [markL])
    rw [Addr.add_lit, Nat.zero_add] at this
    exact this
/-- The i-th literal of a rule of one's own. -/
theorem OwnR.lit_at {w : World} {base : Nat} {r : Rule} {gh ch gb cb : Nat} (h : OwnR w base r gh ch gb cb) {i : Nat} {l : Lit} (hi : r.body[i]? = some l) : ∃ g c, w.cell? ⟨gb, i * 8 + 1, none⟩ = some (.string l.atom.pred) ∧ w.cell? ⟨gb, i * 8 + 2, none⟩ = some (.slice (some ⟨g, 0, none⟩) l.atom.terms.length c) ∧ OwnT w base l.atom.terms g c := by
  obtain ⟨ps, hps, hL, hT⟩ := h.body
  rw [← hps, List.getElem?_map] at hi
  obtain ⟨p, hp, rfl⟩ := Option.map_eq_some_iff.1 hi
  have hil := (List.getElem?_eq_some_iff.1 hp).1
  have C : ∀ j u, (litCells p)[j]? = some u → w.cell? ⟨gb, i * 8 + j, none⟩ = some u := by
    intro j u hu
    have hj : j < 8 := (List.getElem?_eq_some_iff.1 hu).1
    have := hL.1.cells (g := gb) rfl (i * 8 + j) u (by rw [List.getElem?_append_left (by rw [flatL_len]; omega), flatL_get ps i j p hp hj]; exact hu)
    rw [Addr.add_lit, Nat.zero_add] at this
    exact this
  exact ⟨p.2.1, p.2.2, C 1 _ rfl, C 2 _ rfl, hT p (List.mem_of_getElem? hp)⟩
theorem OwnR.ext {w w' : World} {base : Nat} {r : Rule} {gh ch gb cb : Nat} (h : OwnR w base r gh ch gb cb) (e : Ext w w') : OwnR w' base r gh ch gb cb := by
  obtain ⟨ps, h1, h2, h3⟩ := h.body
  exact ⟨h.head.ext e, ps, h1, ⟨h2.1.kept (gb_of_ext e none) (by simp [Value.ownBlock]), h2.2⟩, h3.ext e⟩
set_option maxRecDepth 100000 in
set_option maxHeartbeats 4000000 in
theorem c_stays (r : Rule) (gh nh ch gb nb cb : Nat) (base : Nat) (ah' : Option Addr) (nh' ch' : Nat) (ab' : Option Addr) (nb' cb' : Nat) (w : World) (ho : OwnR w base r gh ch gb cb) (hl : RuleV w r (some ⟨gh, 0, none⟩) nh ch (some ⟨gb, 0, none⟩) nb cb) (hr : RuleV w r ah' nh' ch' ab' nb' cb') :
    Calls Try.prog 24 #[.agg #[.string r.head.pred, .slice (some ⟨gh, 0, none⟩) nh ch, .slice (some ⟨gb, 0, none⟩) nb cb], .agg #[.string r.head.pred, .slice ah' nh' ch', .slice ab' nb' cb']] w fun e w' => e = .returned (.bool true) ∧ Ext w w' := by
  obtain ⟨mh1, mh2, mh3⟩ := ho.head.mark
  have hhl : r.head.terms.length = nh := hl.terms.2.1
  rw [hhl] at mh1 mh3
  obtain ⟨ps, hps, hL, _⟩ := ho.body
  have hpl : ps.length = nb := by rw [← hl.body.2.1, ← hps, List.length_map]
  obtain ⟨mb1, mb2, mb3⟩ := hL.mark
  rw [hpl] at mb1 mb3
  obtain rfl : nb = nb' := hl.body.2.1.symm.trans hr.body.2.1
  have hnb := hl.body.1
  have HLN := Lib.hid hl.body.2.1
  have HO := Lib.hid ho
  have HL := Lib.hid hl
  have HR := Lib.hid hr
  have MH := Lib.hid (show nh + 1 ≤ ch ∧ ch ≤ maxLen ∧ w.cell? ⟨gh, nh * 2, none⟩ = some (.int .i64 (-77)) from ⟨mh1, mh2, mh3⟩)
  clear ho hl hr hps hL hpl mh1 mh2 mh3 hhl
  have mb2' : cb ≤ 9223372036854775807 := by unfold maxLen at mb2; omega
  clear mb2
  have q1 : (0 : Int) ≤ (nb : Int) := by omega
  have q2 : (nb : Int) < (cb : Int) := by omega
  have q3 : (nb : Int) + 1 ≤ (cb : Int) := by omega
  have q5 : (0 : Int) ≤ (nb : Int) + 1 := by omega
  have q6 : wrap64 ((nb : Int) + 1) = (nb : Int) + 1 := by unfold wrap64; omega
  have q8 : (nb : Int) < (nb : Int) + 1 := by omega
  have q9 : decide ((cb : Int) ≤ (nb : Int)) = false := by simp; omega
  have hself : Hid (decide (r = r) = true) := by show _ = _; simp
  go_enter Try.func24, Try.ntmps24
  go_upto_region 1 with (fail)
  refine wp_gen (fun W hW => ?_)
  have hb0 : Ext w W := by rw [hW]; go_grown
  have x0 : W.cell? ⟨w.heap.size, 0, none⟩ = some (.string r.head.pred) := by rw [hW]; go_simp
  have x1 : W.cell? ⟨w.heap.size, 1, none⟩ = some (.slice (some ⟨gh, 0, none⟩) nh ch) := by rw [hW]; go_simp
  have x2 : W.cell? ⟨w.heap.size, 2, none⟩ = some (.slice (some ⟨gb, 0, none⟩) nb cb) := by rw [hW]; go_simp
  have y0 : W.cell? ⟨w.heap.size + 1, 0, none⟩ = some (.string r.head.pred) := by rw [hW]; go_simp
  have y1 : W.cell? ⟨w.heap.size + 1, 1, none⟩ = some (.slice ah' nh' ch') := by rw [hW]; go_simp
  have y2 : W.cell? ⟨w.heap.size + 1, 2, none⟩ = some (.slice ab' nb cb') := by rw [hW]; go_simp
  have mb3 := keep hb0 mb3
  clear hW
  go_upto_region 4 with (first | (go_at_call 31; (with_reducible refine (c_SameR r r _ _ _ _ _ _ _ _ _ _ _ _ W (HL.out.keep hb0) (HR.out.keep hb0)).mono ?_); rw [hself.out]; rintro e w1 ⟨rfl, h1⟩; have x0 := keep h1 x0; have x1 := keep h1 x1; have x2 := keep h1 x2; have mb3 := keep h1 mb3; have hb1 := ext_trans hb0 h1) | (go_at_call 47; (with_reducible refine (c_marked r.head.pred gh nh ch w1 MH.out.1 MH.out.2.1 (keep hb1 MH.out.2.2)).mono ?_); rintro e w2 ⟨rfl, h2⟩; have x2 := keep h2 x2; have mb3 := keep h2 mb3; have hb2 := ext_trans hb1 h2))
  have q10 : decide (cb ≤ nb) = false := by simp; omega
  go_wp2
  rw [q10]
  go_loopw [6] (fun i wj => ∃ k, k ≤ nb ∧ i = .int .i64 (k : Int) ∧ Ext w2 wj) (fun i _ => nb - (intOf i).toNat)
  case atStart => exact ⟨0, by omega, rfl, Below.refl _ _⟩
  case round =>
    obtain ⟨k, hk, rfl, hb⟩ := hrel
    have z2 := keep hb x2
    have HE := Lib.hid (ext_trans hb2 hb)
    by_cases hge : nb ≤ k
    · go_wp2
      go_returns
      exact ⟨rfl, HE.out⟩
    · obtain ⟨l, hll⟩ : ∃ l, r.body[k]? = some l := ⟨_, List.getElem?_eq_getElem (by rw [HLN.out]; omega)⟩
      obtain ⟨g, c, a1, a2, ot⟩ := (HO.out.ext HE.out).lit_at hll
      obtain ⟨m1, m2, m3⟩ := ot.mark
      have hki : (k : Int) < (nb : Int) := by omega
      clear ot hll
      go_wp2_with (go_at_call 47; (with_reducible refine (c_marked l.atom.pred g _ c _ m1 m2 m3).mono ?_); rintro e w5 ⟨rfl, h5⟩)
      go_roundw
      case rel => exact ⟨k + 1, by omega, by go_num, ext_trans hb h5⟩
      case measure => simp [intOf]; omega
end Go.Proofs.Ytcphjfggjjonpaa
