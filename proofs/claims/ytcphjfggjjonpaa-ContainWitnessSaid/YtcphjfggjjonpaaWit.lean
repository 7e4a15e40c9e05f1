/- The walk of the law ContainWitness. -/
import Derived.Test.YtcphjfggjjonpaaFound
namespace Go.Proofs.Ytcphjfggjjonpaa
open Go.ChangeShapes Go.WideShapes Go.ChangeAt Go.RowKit
/-- What Laid answers, as the law's region hands it on. -/
def LaidCut (r s : Rule) (W : World) (v5 v6 v7 : Value) (wc : World) : Prop :=
  Ext W wc ∧ v6 = .bool (laid r s).2.isSome ∧ v7 = .int .i64 (laid r s).1 ∧ ∃ (a : Option Addr) (n cap : Nat), v5 = .slice a n cap ∧ ((laid r s).2 = none → n = 0) ∧ ∀ l, (laid r s).2 = some l → n = l.length ∧ IntsAt wc a n (l.map fun k => ((k : Nat) : Int))
theorem c_fits_some (m0 m' : TMap) (a o : Atom) (aa ao : Option Addr) (na ca no co : Nat) (lit : Int) (pb : Addr) (mb : Nat) (w : World) (hp : w.cell? pb = some (.map (some mb))) (hm : SMap w mb (fv m0)) (ha : TermsAt w aa na a.terms) (ho : TermsAt w ao no o.terms) (hf : fits m0 a o lit = some m') :
    Calls Try.prog 14 #[.agg #[.string a.pred, .slice aa na ca], .agg #[.string o.pred, .slice ao no co], .int .i64 lit, .pointer (some pb)] w fun e w' => e = .returned (.bool true) ∧ w.grownBy w' (some mb) ∧ SMap w' mb (fv m') := by
  refine (c_fits m0 a o aa ao na ca no co lit pb mb w hp hm ha ho).mono fun e w' h => ?_
  obtain ⟨h1, h2⟩ := h
  rw [hf] at h2
  exact ⟨h2.1, h1, h2.2⟩
/-- Before round k. -/
structure WitSt (r s : Rule) (l : List Nat) (me : TMap) (W : World) (mb k : Nat) (m : TMap) (wr : World) : Prop where
  beside : W.grownBy wr (some mb)
  map : SMap wr mb (fv m)
  good : GoodTo r.body s.body m k (l.drop k) me
theorem gb_cell {W wr : World} {mb : Nat} (h : W.grownBy wr (some mb)) {p : Addr} {v : Value} (hp : W.cell? p = some v) (hne : p.block ≠ mb) : wr.cell? p = some v := h.cell hp (fun e => hne (Option.some.inj e))
set_option maxRecDepth 100000 in
set_option maxHeartbeats 2000000 in
theorem c_witness (r s : Rule) (ah : Option Addr) (nh ch : Nat) (ab : Option Addr) (nb cb : Nat) (ah' : Option Addr) (nh' ch' : Nat) (ab' : Option Addr) (nb' cb' : Nat) (w : World) (hr : RuleV w r ah nh ch ab nb cb) (hs : RuleV w s ah' nh' ch' ab' nb' cb') :
    Calls Try.prog 3 #[.agg #[.string r.head.pred, .slice ah nh ch, .slice ab nb cb], .agg #[.string s.head.pred, .slice ah' nh' ch', .slice ab' nb' cb']] w fun e w' => e = .returned (.bool true) ∧ Ext w w' := by
  have HR := Lib.hid hr
  have HS := Lib.hid hs
  clear hr hs
  go_enter Try.func3, Try.ntmps3
  go_upto_region 1 with (fail)
  refine wp_gen (fun W0 hW => ?_)
  have hb0 : Ext w W0 := by rw [hW]; go_grown
  have x0 : W0.cell? ⟨w.heap.size, 0, none⟩ = some (.string r.head.pred) := by rw [hW]; go_simp
  have x1 : W0.cell? ⟨w.heap.size, 1, none⟩ = some (.slice ah nh ch) := by rw [hW]; go_simp
  have x2 : W0.cell? ⟨w.heap.size, 2, none⟩ = some (.slice ab nb cb) := by rw [hW]; go_simp
  have y0 : W0.cell? ⟨w.heap.size + 1, 0, none⟩ = some (.string s.head.pred) := by rw [hW]; go_simp
  have y1 : W0.cell? ⟨w.heap.size + 1, 1, none⟩ = some (.slice ah' nh' ch') := by rw [hW]; go_simp
  have y2 : W0.cell? ⟨w.heap.size + 1, 2, none⟩ = some (.slice ab' nb' cb') := by rw [hW]; go_simp
  clear hW
  go_upto_region 3 with (go_at_call 10; (with_reducible refine (c_known _).mono ?_); rintro e w1 ⟨rfl, h1⟩; have x0 := keep h1 x0; have x1 := keep h1 x1; have x2 := keep h1 x2; have y0 := keep h1 y0; have y1 := keep h1 y1; have y2 := keep h1 y2)
  have hb1 := ext_trans hb0 h1
  have HR1 := Lib.hid (HR.out.keep hb1)
  have HS1 := Lib.hid (HS.out.keep hb1)
  have hd : Ext w1 w1.drew := ext_drew (Below.refl _ _)
  go_cut [5, 6, 7] (fun v5 v6 v7 wc => LaidCut r s w1 v5 v6 v7 wc)
  case first =>
    go_region_held3 (fun w' => w'.cell? ⟨w.heap.size, 0, none⟩ = some (.string r.head.pred) ∧ w'.cell? ⟨w.heap.size, 1, none⟩ = some (.slice ah nh ch) ∧ w'.cell? ⟨w.heap.size, 2, none⟩ = some (.slice ab nb cb) ∧ w'.cell? ⟨w.heap.size + 1, 0, none⟩ = some (.string s.head.pred) ∧ w'.cell? ⟨w.heap.size + 1, 1, none⟩ = some (.slice ah' nh' ch') ∧ w'.cell? ⟨w.heap.size + 1, 2, none⟩ = some (.slice ab' nb' cb'))
      (first | go_keep | exact ⟨keep g6 x0, keep g6 x1, keep g6 x2, keep g6 y0, keep g6 y1, keep g6 y2⟩ | exact ⟨keep g7 x0, keep g7 x1, keep g7 x2, keep g7 y0, keep g7 y1, keep g7 y2⟩ | exact ⟨keep g8 x0, keep g8 x1, keep g8 x2, keep g8 y0, keep g8 y1, keep g8 y2⟩)
      (first | (go_at_call 12; (with_reducible refine (c_own r _ _ _ _ _ _ w1.drew (HR1.out.keep hd)).mono ?_); rintro e w6 ⟨gh6, ch6, gb6, cb6, rfl, ho6, h6⟩; have R6 := OwnR.rule ho6 HR1.out; have g6 := ext_trans hd h6; clear ho6) | (go_at_call 12; (with_reducible refine (c_own s _ _ _ _ _ _ w6 (HS1.out.keep g6)).mono ?_); rintro e w7 ⟨gh7, ch7, gb7, cb7, rfl, ho7, h7⟩; have R7 := OwnR.rule ho7 HS1.out; have g7 := ext_trans g6 h7; clear ho7) | (go_at_call 11; (with_reducible refine (c_Laid2 r s _ _ _ _ _ _ _ _ _ _ _ _ w7 (R6.keep h7) R7).mono ?_); rintro e w8 ⟨a8, n8, c8, rfl, h8, hl8⟩; have g8 := ext_trans g7 h8))
    all_goals
      go_wp2
      go_meet
      exact ⟨g8, rfl, rfl, a8, n8, c8, rfl, fun hn => by have := hl8.2.1 hn; cases this; rfl, fun l hl => own_ints (hl8.2.2 l hl)⟩
  case rest =>
    obtain ⟨h8, rfl, rfl, a, n, cap, rfl, hn0, hl⟩ := hcut
    have x0 := keep h8 x0
    have x1 := keep h8 x1
    have x2 := keep h8 x2
    have y0 := keep h8 y0
    have y1 := keep h8 y1
    have y2 := keep h8 y2
    have hb8 := ext_trans hb1 h8
    have hwl := World.block_lt_of_cell? _ _ y0
    cases hlr : (laid r s).2 with
    | none =>
      obtain rfl := hn0 hlr
      clear hl hlr
      obtain ⟨E, hE⟩ : ∃ E, E = (laid r s).1 := ⟨_, rfl⟩
      rw [← hE]
      clear hE
      simp only [Option.isSome_none]
      obtain ⟨b, eb⟩ : ∃ b, (E != 0) = b := ⟨_, rfl⟩
      cases b with
      | true =>
        go_wp2_with (go_at_call 13; (with_reducible refine (c_num _ _).mono ?_); rintro e w4 ⟨rfl, rfl⟩)
        go_returns
        exact ⟨rfl, hb8⟩
      | false =>
        go_wp2_with (go_at_call 13; (with_reducible refine (c_num _ _).mono ?_); rintro e w4 ⟨rfl, rfl⟩)
        go_returns
        exact ⟨rfl, hb8⟩
    | some l =>
      obtain ⟨rfl, hat⟩ := hl l hlr
      have hz := laid_zero hlr
      obtain ⟨hlen, m, me, hfit, hgood⟩ := laid_good hlr
      rw [hz]
      simp only [Option.isSome_some]
      have hnb : l.length = nb' := by rw [hlen]; exact HS.out.body.2.1
      have HAT := Lib.hid hat
      have HG := Lib.hid hgood
      have HF := Lib.hid hfit
      clear hn0 hl hat hgood hfit hlr hz hlen
      have hmm := @run_makeMap Try.prog
      go_upto_region 10 with (go_at_call 13; (with_reducible refine (c_num _ _).mono ?_); rintro e w4 ⟨rfl, rfl⟩)
      refine wp_gen (fun W1 hW1 => ?_)
      have h41 : Ext w4 W1 := by rw [hW1]; exact ext_alloc (ext_alloc (Below.refl _ _) _) _
      have xp : W1.cell? ⟨w4.heap.size + 1, 0, none⟩ = some (.map (some w4.heap.size)) := by rw [hW1]; go_simp
      have hm0 : SMap W1 w4.heap.size (fv fun _ => none) := by rw [hW1]; exact (SMap.made w4).ext (ext_alloc (Below.refl _ _) _)
      clear hW1 hmm
      obtain ⟨mb, hmb⟩ : ∃ mb, mb = w4.heap.size := ⟨_, rfl⟩
      have x0 := keep h41 x0
      have x1 := keep h41 x1
      have x2 := keep h41 x2
      have y0 := keep h41 y0
      have y1 := keep h41 y1
      have y2 := keep h41 y2
      have hb9 := ext_trans hb8 h41
      have HAT1 := Lib.hid (HAT.out.keep h41)
      go_upto_region 12 with (go_at_call 14; (with_reducible refine (c_fits_some (fun _ => none) m s.head r.head _ _ _ _ _ _ (-1) _ _ W1 xp hm0 (HS.out.terms.keep hb9) (HR.out.terms.keep hb9) HF.out).mono ?_); rintro e w5 ⟨rfl, hg5, hs5⟩)
      have st5 : WitSt r s l me W1 w4.heap.size 0 m w5 := ⟨hg5, hs5, HG.out⟩
      have ST5 := Lib.hid st5
      clear st5 hg5 hs5
      go_wp2
      go_loopw [10] (fun i wj => ∃ k mk, k ≤ nb' ∧ i = .int .i64 (k : Int) ∧ WitSt r s l me W1 w4.heap.size k mk wj) (fun i _ => nb' - (intOf i).toNat)
      case atStart => exact ⟨0, m, by omega, rfl, ST5.out⟩
      case round =>
        obtain ⟨k, mk, hk, rfl, hst⟩ := hrel
        have HST := Lib.hid hst
        clear hst
        by_cases hlt : k < nb'
        · obtain ⟨xv, ba, oa, hx, rfl, hca⟩ := HAT.out.2.at (i := k) (by omega)
          obtain ⟨x, hx', rfl⟩ : ∃ x, l[k]? = some x ∧ ((x : Nat) : Int) = xv := by simpa using hx
          have hgd := HST.out.good
          rw [drop_at hx'] at hgd
          obtain ⟨L, K, m', hL, hK, hfit, hgd⟩ := hgd
          have hxb : x < nb := by have := (List.getElem?_eq_some_iff.1 hK).1; rw [HR.out.body.2.1] at this; exact this
          obtain ⟨bs, os, rfl, aL, nL, cL, _, l1, l2, _, _, _, _, _, lt, _⟩ := (HS.out.body.keep hb8).2.2 k L hL
          obtain ⟨br, or, rfl, aK, nK, cK, _, r1, r2, _, _, _, _, _, rt, _⟩ := (HR.out.body.keep hb8).2.2 x K hK
          have hk1 : ∀ p v, W1.cell? p = some v → wr.cell? p = some v := fun p v h => gb_cell HST.out.beside h (smap_ne hm0 h)
          have z2 := hk1 _ _ x2
          have v2 := hk1 _ _ y2
          have c1 := hk1 _ _ (keep h41 l1)
          have c2 := hk1 _ _ (keep h41 l2)
          have d1 := hk1 _ _ (keep h41 r1)
          have d2 := hk1 _ _ (keep h41 r2)
          have hca' : wr.cell? ⟨ba, oa + k, none⟩ = some (.int .i64 (x : Int)) := hk1 _ _ (keep h41 (by simpa [intAt] using hca))
          have zp := hk1 _ _ xp
          have hlt' : TermsAt wr aL nL L.atom.terms := (lt.keep h41).gb HST.out.beside hm0
          have hrt' : TermsAt wr aK nK K.atom.terms := (rt.keep h41).gb HST.out.beside hm0
          have LT := Lib.hid hlt'
          have RT := Lib.hid hrt'
          have HF' := Lib.hid hfit
          have HGD := Lib.hid hgd
          have HX := Lib.hid hx'
          have hd' : Ext wr wr.drew := ext_drew (Below.refl _ _)
          have n0 := smap_ne HST.out.map z2
          have n1 := smap_ne HST.out.map v2
          have n2 := smap_ne HST.out.map c1
          have n3 := smap_ne HST.out.map d1
          have n4 := smap_ne HST.out.map hca'
          have hneg : ¬ ((x : Nat) : Int) < 0 := by omega
          have hge1 : ¬ ((nb : Nat) : Int) ≤ ((x : Nat) : Int) := by omega
          have hge2 : decide (((nb : Nat) : Int) ≤ ((x : Nat) : Int)) = false := by simpa using hxb
          have hge3 : decide (nb ≤ x) = false := by simpa using hxb
          have hge4 : ¬ nb ≤ x := by omega
          clear hgd hfit hx hx' hca l1 l2 r1 r2 lt rt hlt' hrt' x0 x1 x2 y0 y1 y2 xp hL hK
          go_upto_region 15 with (fail)
          go_cut [91] (fun v91 wc => v91 = .bool false ∧ wr.grownBy wc (some w4.heap.size) ∧ SMap wc w4.heap.size (fv m'))
          case first =>
            go_region_held3 (fun w' => w'.cell? ⟨w.heap.size, 2, none⟩ = some (.slice (some ⟨br, or, none⟩) nb cb) ∧ w'.cell? ⟨w.heap.size + 1, 2, none⟩ = some (.slice (some ⟨bs, os, none⟩) nb' cb') ∧ w'.cell? ⟨ba, oa + k, none⟩ = some (.int .i64 (x : Int)) ∧ w'.cell? ⟨bs, os + k * 8 + 1, none⟩ = some (.string L.atom.pred) ∧ w'.cell? ⟨bs, os + k * 8 + 2, none⟩ = some (.slice aL nL cL) ∧ w'.cell? ⟨br, or + x * 8 + 1, none⟩ = some (.string K.atom.pred) ∧ w'.cell? ⟨br, or + x * 8 + 2, none⟩ = some (.slice aK nK cK))
              (first | go_keep | exact ⟨gb_cell hg6' z2 n0, gb_cell hg6' v2 n1, gb_cell hg6' hca' n4, gb_cell hg6' c1 n2, gb_cell hg6' c2 n2, gb_cell hg6' d1 n3, gb_cell hg6' d2 n3⟩)
              (first | (go_at_call 14; (with_reducible refine (c_fits_some mk m' L.atom K.atom _ _ _ _ _ _ (x : Int) _ _ wr.drew (keep hd' zp) (HST.out.map.ext hd') (LT.out.keep hd') (RT.out.keep hd') HF'.out).mono ?_); rintro e w6 ⟨rfl, hg6, hs6⟩; have hg6' : wr.grownBy w6 (some w4.heap.size) := ⟨hg6.os, hg6.tape, hg6.output, hg6.size, hg6.block⟩))
            all_goals
              go_wp2
              go_meet
              exact ⟨rfl, hg6', hs6⟩
          case rest =>
            obtain ⟨rfl, hgc, hsc⟩ := hcut
            have hnn := HS.out.body.1
            go_wp2
            go_roundw
            case rel => exact ⟨k + 1, m', by omega, by go_num, ⟨gb_trans HST.out.beside hgc, hsc, HGD.out⟩⟩
            case measure => simp [intOf]; omega
        · go_wp2
          go_returns
          exact ⟨rfl, ext_ownB hb9 HST.out.beside (fun g e => by cases e; exact hb8.size)⟩
end Go.Proofs.Ytcphjfggjjonpaa
