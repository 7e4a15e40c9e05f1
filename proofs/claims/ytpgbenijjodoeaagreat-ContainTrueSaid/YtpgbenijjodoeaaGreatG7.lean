/- The walk of slices.CompactFunc at rows. -/
import Derived.Test.YtpgbenijjodoeaaGreatG6
import Derived.Lib.SliceRun
namespace Go.Proofs.YtpgbenijjodoeaaGreat
open Go.ChangeShapes Go.WideShapes Go.ChangeAt Go.RowKit
theorem row_str {lo lo2 n : Nat} {w w' : World} {us : List Value} {v vB : Value} {m : Nat} {xs : List Value} (h : w.ownsRow lo2 9 1 v m xs) (hown : w.ownsRow lo 46 1 vB n us) (hb : ButS (fun b => vB.ownBlock = some b) w w') : w'.ownsRow lo2 9 1 v m xs := hb.own h fun b hb1 hb2 => by
  rcases own_apart h hown (by decide) with h1 | h1
  · rw [h1] at hb1
    cases hb1
  · exact h1 (hb1.trans hb2.symm)
theorem RowsAt.buts {lo lo2 n : Nat} {w w' : World} {us vs : List Value} {vB : Value} {rs : List (List ByteArray)} (h : RowsAt lo2 w vs rs) (hown : w.ownsRow lo 46 1 vB n us) (hb : ButS (fun b => vB.ownBlock = some b) w w') : RowsAt lo2 w' vs rs := ⟨h.1, fun i r v h1 h2 => row_str (h.2 i r v h1 h2) hown hb⟩
theorem ButS.drewN {S : Nat → Prop} {w x : World} (h : ButS S w x) (q : Nat) : ButS S w (x.drewN q) := h.ext (ext_drewN (Below.refl _ _) _)
theorem own_drewN {w : World} {base n size : Nat} {e : TypeId} {v : Value} {xs : List Value} (h : w.ownsRow base e size v n xs) (q : Nat) : (w.drewN q).ownsRow base e size v n xs := up_ext h (ext_drewN (Below.refl _ _) _)
/-- A row of rows at hand, with what each holds. -/
structure RowRow (lo g n c : Nat) (xs : List Value) (qs : List (List ByteArray)) (w : World) : Prop where
  own : w.ownsRow lo 46 1 (.slice (some ⟨g, 0, none⟩) n c) n xs
  rows : RowsAt lo w xs qs
theorem RowRow.at {lo g n c : Nat} {xs : List Value} {qs : List (List ByteArray)} {w : World} (h : RowRow lo g n c xs qs w) {k : Nat} (hk : k < n) : ∃ (r : List ByteArray) (a : Option Addr) (c7 : Nat), qs[k]? = some r ∧ xs[k]? = some (.slice a r.length c7) ∧ w.cell? ⟨g, k, none⟩ = some (.slice a r.length c7) ∧ w.frozen? ⟨g, k, none⟩ = false ∧ StrsAt w a r.length r ∧ w.ownsRow lo 9 1 (.slice a r.length c7) r.length (r.map Value.string) := by
  have hxl : xs.length = n := by have := h.own.1; omega
  have hql := h.rows.1
  obtain ⟨r, hr⟩ : ∃ r, qs[k]? = some r := ⟨_, List.getElem?_eq_getElem (by omega)⟩
  obtain ⟨v, hv⟩ : ∃ v, xs[k]? = some v := ⟨_, List.getElem?_eq_getElem (by omega)⟩
  have ho := h.rows.2 k r v hr hv
  obtain ⟨a, c7, rfl, _⟩ := own_form ho
  have hc := h.own.cells (g := g) rfl k _ hv
  rw [Addr.add_lit, Nat.zero_add] at hc
  refine ⟨r, a, c7, hr, hv, hc, ?_, own_strs ho (own_len ho).1, ho⟩
  rcases h.own.2 with ⟨h1, _⟩ | ⟨g', c', cur, h1, _, hg, _⟩
  · cases h1
  · cases h1
    simp [World.frozen?, hg]
theorem RowRow.set {lo g n c : Nat} {xs : List Value} {qs : List (List ByteArray)} {w : World} (h : RowRow lo g n c xs qs w) (k : Nat) {v : Value} {r : List ByteArray} (hr : w.ownsRow lo 9 1 v r.length (r.map Value.string)) : RowRow lo g n c (xs.set k v) (qs.set k r) (w.setCell ⟨g, k, none⟩ v) ∧ ButS (fun b => (Value.slice (some ⟨g, 0, none⟩) n c).ownBlock = some b) w (w.setCell ⟨g, k, none⟩ v) := by
  obtain ⟨h1, h2⟩ := h.own.stored k v
  have hb : ButS (fun b => (Value.slice (some ⟨g, 0, none⟩) n c).ownBlock = some b) w (w.setCell ⟨g, k, none⟩ v) := ButS.set (S := fun b => (Value.slice (some ⟨g, 0, none⟩) n c).ownBlock = some b) (ButS.refl _ w) (.inl rfl) _ _
  refine ⟨⟨h1, by rw [List.length_set, List.length_set]; exact h.rows.1, fun i x u hx hu => ?_⟩, hb⟩
  by_cases e : k = i
  · subst e
    have l1 := (List.getElem?_eq_some_iff.1 hx).1
    have l2 := (List.getElem?_eq_some_iff.1 hu).1
    rw [List.length_set] at l1 l2
    rw [List.getElem?_set_self l1] at hx
    rw [List.getElem?_set_self l2] at hu
    cases hx
    cases hu
    exact row_str hr h.own hb
  · rw [List.getElem?_set_ne e] at hx hu
    exact row_str (h.rows.2 i x u hx hu) h.own hb
theorem RowRow.drewN {lo g n c : Nat} {xs : List Value} {qs : List (List ByteArray)} {w : World} (h : RowRow lo g n c xs qs w) (q : Nat) : RowRow lo g n c xs qs (w.drewN q) := ⟨own_drewN h.own q, h.rows.ext (ext_drewN (Below.refl _ _) _)⟩
theorem RowRow.cut {lo g n c : Nat} {xs : List Value} {qs : List (List ByteArray)} {w : World} (h : RowRow lo g n c xs qs w) {k : Nat} (hk : k ≤ n) : RowRow lo g k c (xs.take k) (qs.take k) w := by
  obtain ⟨h1, h2, h3⟩ := h
  refine ⟨?_, by rw [List.length_take, List.length_take, h2], fun i r v hr hv => ?_⟩
  · refine ⟨by rw [List.length_take, h1.1]; omega, ?_⟩
    rcases h1.2 with ⟨e, _⟩ | ⟨g', c', cur, e, hb, hg, hnc, hcm, hcs, ht⟩
    · cases e
    · cases e
      refine .inr ⟨g, c, cur, rfl, hb, hg, by omega, hcm, hcs, ?_⟩
      rw [← ht, List.take_take]
      congr 1
      omega
  · rw [List.getElem?_take] at hr hv
    split at hr
    · rename_i hlt
      rw [if_pos hlt] at hv
      exact h3 i r v hr hv
    · cases hr
/-- Cells behind the row are written: the row stands. -/
theorem RowRow.behind {lo g k c : Nat} {qs : List (List ByteArray)} : ∀ (zs : List Value) (xs : List Value) (j : Nat) (w : World), k ≤ j → RowRow lo g k c xs qs w → RowRow lo g k c xs qs (w.setCells g j zs) ∧ ButS (fun b => (Value.slice (some ⟨g, 0, none⟩) k c).ownBlock = some b) w (w.setCells g j zs)
  | [], _, _, w, _, h => ⟨h, ButS.refl _ _⟩
  | z :: zs, xs, j, w, hj, h => by
    have hb : ButS (fun b => (Value.slice (some ⟨g, 0, none⟩) k c).ownBlock = some b) w (w.setCell ⟨g, j, none⟩ z) := ButS.set (S := fun b => (Value.slice (some ⟨g, 0, none⟩) k c).ownBlock = some b) (ButS.refl _ w) (.inl rfl) _ _
    have h1 : RowRow lo g k c xs qs (w.setCell ⟨g, j, none⟩ z) := by
      refine ⟨?_, h.rows.buts h.own hb⟩
      have := (h.own.stored j z).1
      rwa [List.set_eq_of_length_le (by have := h.own.1; omega)] at this
    obtain ⟨h2, h3⟩ := RowRow.behind zs xs (j + 1) _ (by omega) h1
    exact ⟨h2, hb.trans h3⟩
theorem zero_row (w : World) : (zeroValue 46).run Tryz.prog w = .ok (.slice none 0 0) w := by kernel_rfl
theorem wrapP {k : Nat} (hk : k ≤ 1000000) : IntKind.i64.wrap (k : Int) = (k : Int) := by
  rw [IntKind.wrap_i64]
  omega
def CompPost (lo : Nat) (a : Option Addr) (n c : Nat) (ws : List (List ByteArray)) (w : World) (e : Ending) (w' : World) : Prop := ∃ us', e = .returned (.slice a (cmpt ws).length c) ∧ w'.ownsRow lo 46 1 (.slice a (cmpt ws).length c) (cmpt ws).length us' ∧ RowsAt lo w' us' (cmpt ws) ∧ ButS (fun b => (Value.slice a n c).ownBlock = some b) w w'
theorem cmpt_take {ws : List (List ByteArray)} {k : Nat} {x y : List ByteArray} (hx : ws[k]? = some x) (hy : ws[k + 1]? = some y) : cmpt (ws.take (k + 2)) = if x = y then cmpt (ws.take (k + 1)) else cmpt (ws.take (k + 1)) ++ [y] := by
  rw [take_at hy, cmpt_snoc, cmpt_last, take_at hx]
  simp
set_option maxRecDepth 100000 in
set_option maxHeartbeats 4000000 in
theorem c_compact (lo : Nat) (a : Option Addr) (n c : Nat) (us : List Value) (ws : List (List ByteArray)) (w : World) (hown : w.ownsRow lo 46 1 (.slice a n c) n us) (hr : RowsAt lo w us ws) (hn : n ≤ 1000000) :
    Calls Tryz.prog 134 #[.slice a n c, .func (.func 135) #[] #[]] w (CompPost lo a n c ws w) := by
  have hul : us.length = n := by have := hown.1; omega
  have hwl : ws.length = n := by rw [← hr.1, hul]
  by_cases h2 : n < 2
  · have HE : Hid (CompPost lo a n c ws w (.returned (.slice a n c)) w) := by
      have e : cmpt ws = ws := by
        rcases ws with _ | ⟨x, ws⟩
        · rfl
        · have : ws = [] := List.eq_nil_of_length_eq_zero (by simp at hwl; omega)
          subst this
          rfl
      show CompPost lo a n c ws w (.returned (.slice a n c)) w
      unfold CompPost
      rw [e, hwl]
      exact ⟨us, rfl, hown, hr, ButS.refl _ _⟩
    have h2i : (n : Int) < 2 := by omega
    clear hown hr hul hwl h2
    go_enter Tryz.func134, Tryz.ntmps134
    go_wp2
    go_returns
    exact HE.out
  · have h2i : ¬ (n : Int) < 2 := by omega
    obtain ⟨g, c', e0, _⟩ := own_formS hown (by omega)
    cases e0
    have RR : RowRow lo g n c us ws w := ⟨hown, hr⟩
    have HR := Lib.hid RR
    have HW := Lib.hid hwl
    have hnc : n ≤ c := (cap_of_own hown).1
    have hnm : n ≤ 9223372036854775807 := by omega
    clear RR hown hr hul hwl
    go_enter Tryz.func134, Tryz.ntmps134
    go_wp2
    go_loopw [5] (fun v wj => ∃ k : Nat, k + 1 ≤ n ∧ v = .int .i64 ((k : Int) + 1) ∧ (∃ q, wj = w.drewN q) ∧ cmpt (ws.take (k + 1)) = ws.take (k + 1)) (fun v _ => n - (intOf v).toNat)
    case atStart => exact ⟨0, by omega, rfl, ⟨0, rfl⟩, by have := HW.out; rcases ws with _ | ⟨x, ws⟩ <;> first | rfl | (simp at this; omega)⟩
    case round =>
      obtain ⟨k, hk, rfl, ⟨q0, hq0⟩, hq⟩ := hrel
      have HQ := Lib.hid hq
      have HRw : Hid (RowRow lo g n c us ws wr) := by show RowRow _ _ _ _ _ _ _; rw [hq0]; exact HR.out.drewN q0
      have Q0 := Lib.hid hq0
      clear hq hq0
      by_cases hlt : k + 1 < n
      · obtain ⟨x, ax, cx, hx, _, gx, _, sx, _⟩ := HRw.out.at (k := k) (by omega)
        obtain ⟨y, ay, cy, hy, _, gy, _, sy, _⟩ := HRw.out.at (k := k + 1) hlt
        have HX := Lib.hid hx
        have HY := Lib.hid hy
        have SX := Lib.hid sx
        have SY := Lib.hid sy
        obtain ⟨t, ht⟩ : ∃ t, decide (y = x) = t := ⟨_, rfl⟩
        have T := Lib.hid ht
        clear hx hy sx sy ht
        have EQ : Hid (∀ W : World, Ext wr W → Calls Tryz.prog 135 #[.slice ay y.length cy, .slice ax x.length cx] W fun e w' => e = .returned (.bool t) ∧ ∃ q, w' = W.drewN q) := fun W hW => by
          rw [← T.out]
          exact c_eqF y x ay _ cy ax _ cx W (SY.out.keep hW) (SX.out.keep hW)
        have e1 : (k : Int) + 1 - 1 = (k : Int) := by omega
        have e2 : ((k : Int) + 1).toNat = k + 1 := by omega
        have l1 : (k : Int) + 1 < (n : Int) := by omega
        have l2 : (k : Int) < (n : Int) := by omega
        have l3 : (0 : Int) ≤ (k : Int) + 1 := by omega
        have l4 : (0 : Int) ≤ (k : Int) := by omega
        have e3 : IntKind.i64.wrap (k : Int) = (k : Int) := wrapP (by omega)
        have l5 : (0 : Int) ≤ (k : Int) + 1 - 1 := by omega
        have l6 : (k : Int) + 1 - 1 < (n : Int) := by omega
        have e4 : ((k : Int) + 1 - 1).toNat = k := by omega
        have hd : Ext wr wr.drew := ext_drew (Below.refl _ _)
        cases t with
        | false =>
          have STEP : Hid (cmpt (ws.take (k + 1 + 1)) = ws.take (k + 1 + 1)) := by
            show _ = _
            rw [cmpt_take HX.out HY.out, if_neg (by have := T.out; simp at this; exact fun e => this e.symm), HQ.out, take_at HY.out]
          go_wp2
          go_region_held3 (fun w' => w'.cell? ⟨g, k, none⟩ = some (.slice ax x.length cx) ∧ w'.cell? ⟨g, k + 1, none⟩ = some (.slice ay y.length cy))
            (first | exact ⟨gx, gy⟩ | fail)
            (first | (go_at_call 135; (with_reducible refine (EQ.out _ hd).mono ?_); rintro e w2 ⟨rfl, q2, hq2⟩; obtain rfl := hq2.symm) | fail)
          all_goals
            go_wp2
            go_roundw
            case rel => exact ⟨k + 1, by omega, by go_num, ⟨_, by rw [Q0.out, World.drewN_drewN]⟩, STEP.out⟩
            case measure => simp [intOf]; omega
        | true =>
          have PRE : Hid (cmpt (ws.take (k + 1 + (0 + 1))) = ws.take (k + 1)) := by
            show _ = _
            rw [show k + 1 + (0 + 1) = k + 2 by omega, cmpt_take HX.out HY.out, if_pos (by have := T.out; simp at this; exact this.symm), HQ.out]
          go_wp2
          go_region_held3 (fun w' => w'.cell? ⟨g, k, none⟩ = some (.slice ax x.length cx) ∧ w'.cell? ⟨g, k + 1, none⟩ = some (.slice ay y.length cy))
            (first | exact ⟨gx, gy⟩ | fail)
            (first | (go_at_call 135; (with_reducible refine (EQ.out _ hd).mono ?_); rintro e w2 ⟨rfl, q2, hq2⟩; obtain rfl := hq2.symm) | fail)
          all_goals
            have l7 : (k : Int) + 1 ≤ (n : Int) := by omega
            have l8 : (n : Int) ≤ (c : Int) := by omega
            have l9 : ¬ (c = k + 1) := by omega
            clear l5 l6 e4
            go_wp2
            refine wp_gen (fun W0 hW0 => ?_)
            have HR0 : Hid (RowRow lo g n c us ws W0) := by
              show RowRow _ _ _ _ _ _ _
              rw [hW0]
              exact HRw.out.drewN _
            have HB0 : Hid (ButS (fun b => (Value.slice (some ⟨g, 0, none⟩) n c).ownBlock = some b) w W0) := by
              show ButS _ _ _
              rw [hW0, Q0.out]
              exact ((ButS.refl _ w).drewN _).drewN _
            clear hW0 gx gy EQ hd
            go_loopw [5, 7] (fun v5 v7 wj => ∃ p t : Nat, k + 1 + t + 1 ≤ n ∧ p ≤ k + 1 + t ∧ v5 = .int .i64 (p : Int) ∧ v7 = .int .i64 ((t : Int) + 1) ∧ ∃ xs qs, RowRow lo g n c xs qs wj ∧ qs.take p = cmpt (ws.take (k + 1 + (t + 1))) ∧ qs.drop p = ws.drop p ∧ ButS (fun b => (Value.slice (some ⟨g, 0, none⟩) n c).ownBlock = some b) w wj) (fun _ v7 _ => n - (intOf v7).toNat)
            case atStart => exact ⟨k + 1, 0, by omega, by omega, rfl, rfl, us, ws, HR0.out, PRE.out.symm, rfl, HB0.out⟩
            case round =>
              obtain ⟨p, t, ht, hp, rfl, rfl, xs, qs, hrr, hq1, hq2, hbb⟩ := hrel
              have RR := Lib.hid hrr
              have Q1 := Lib.hid hq1
              have Q2 := Lib.hid hq2
              have BB := Lib.hid hbb
              clear hrr hq1 hq2 hbb
              have m1 : IntKind.i64.wrap (t : Int) = (t : Int) := wrapP (by omega)
              have m2 : (0 : Int) ≤ (t : Int) + 1 := by omega
              have m3 : ((t : Int) + 1).toNat = t + 1 := by omega
              by_cases hlt2 : k + 1 + (t + 1) < n
              · have m4 : (t : Int) + 1 < ((n - (k + 1) : Nat) : Int) := by omega
                have m5 : (t : Int) < ((n - (k + 1) : Nat) : Int) := by omega
                obtain ⟨x', ax', cx', hx', _, gx', _, sx', _⟩ := RR.out.at (k := k + 1 + t) (by omega)
                obtain ⟨y', ay', cy', hy', hyv, gy', _, sy', oy'⟩ := RR.out.at (k := k + 1 + (t + 1)) hlt2
                have dr : ∀ j, p ≤ j → qs[j]? = ws[j]? := fun j hj => by
                  have e := congrArg (fun l : List (List ByteArray) => l[j - p]?) Q2.out
                  simp only [List.getElem?_drop] at e
                  rwa [show p + (j - p) = j by omega] at e
                have HX' : Hid (ws[k + 1 + t]? = some x') := (dr _ (by omega)).symm.trans hx'
                have HY' : Hid (ws[k + 1 + t + 1]? = some y') := (dr _ (by omega)).symm.trans hy'
                obtain ⟨tt, htt⟩ : ∃ tt, decide (y' = x') = tt := ⟨_, rfl⟩
                have T' := Lib.hid htt
                have SX' := Lib.hid sx'
                have SY' := Lib.hid sy'
                have OY' := Lib.hid oy'
                have EQ' : Hid (∀ W : World, Ext wr W → Calls Tryz.prog 135 #[.slice ay' y'.length cy', .slice ax' x'.length cx'] W fun e w' => e = .returned (.bool tt) ∧ ∃ q, w' = W.drewN q) := fun W hW => by
                  rw [← T'.out]
                  exact c_eqF y' x' ay' _ cy' ax' _ cx' W (SY'.out.keep hW) (SX'.out.keep hW)
                have hd' : Ext wr wr.drew := ext_drew (Below.refl _ _)
                have CT : Hid (cmpt (ws.take (k + 1 + (t + 1 + 1))) = if x' = y' then cmpt (ws.take (k + 1 + (t + 1))) else cmpt (ws.take (k + 1 + (t + 1))) ++ [y']) := cmpt_take HX'.out HY'.out
                clear hx' hy' htt sx' sy' oy' dr hyv
                cases tt with
                | true =>
                  go_wp2
                  go_region_held3 (fun w' => w'.cell? ⟨g, k + 1 + t, none⟩ = some (.slice ax' x'.length cx') ∧ w'.cell? ⟨g, k + 1 + (t + 1), none⟩ = some (.slice ay' y'.length cy'))
                    (first | exact ⟨gx', gy'⟩ | fail)
                    (first | (go_at_call 135; (with_reducible refine (EQ'.out _ hd').mono ?_); rintro e w2 ⟨rfl, q2, hq2⟩; obtain rfl := hq2.symm) | fail)
                  all_goals
                    go_wp2
                    go_roundw
                    case rel => exact ⟨p, t + 1, by omega, by omega, rfl, by go_num, xs, qs, RR.out.drewN _, by rw [CT.out, if_pos (by have := T'.out; simp at this; exact this.symm)]; exact Q1.out, Q2.out, BB.out.drewN _⟩
                    case measure => simp [intOf]; omega
                | false =>
                  go_wp2
                  go_region_held3 (fun w' => w'.cell? ⟨g, k + 1 + t, none⟩ = some (.slice ax' x'.length cx') ∧ w'.cell? ⟨g, k + 1 + (t + 1), none⟩ = some (.slice ay' y'.length cy'))
                    (first | exact ⟨gx', gy'⟩ | fail)
                    (first | (go_at_call 135; (with_reducible refine (EQ'.out _ hd').mono ?_); rintro e w2 ⟨rfl, q2, hq2⟩; obtain rfl := hq2.symm) | fail)
                  all_goals
                    obtain ⟨z, az, cz, hz, _, gz, fz, _, _⟩ := RR.out.at (k := p) (by omega)
                    clear hz
                    have m6 : (p : Int) < (n : Int) := by omega
                    go_wp2
                    go_roundw
                    case rel =>
                      obtain ⟨s1, s2⟩ := (RR.out.drewN (1 + q2)).set p (own_drewN OY'.out (1 + q2))
                      have hql : p < qs.length := by
                        have h1 := RR.out.rows.1
                        have h2 := RR.out.own.1
                        omega
                      refine ⟨p + 1, t + 1, by omega, by omega, by go_num, by go_num, _, _, s1, ?_, ?_, (BB.out.drewN _).trans s2⟩
                      · rw [CT.out, if_neg (by have := T'.out; simp at this; exact fun e => this e.symm), take_at (List.getElem?_set_self hql), List.take_set_of_le (Nat.le_refl _), Q1.out]
                      · rw [List.drop_set_of_lt (Nat.lt_succ_self p)]
                        have e := congrArg (List.drop 1) Q2.out
                        rwa [List.drop_drop, List.drop_drop] at e
                    case measure => simp [intOf]; omega
              · have m4 : ¬ (t : Int) + 1 < ((n - (k + 1) : Nat) : Int) := by omega
                have HN : Hid (k + 1 + (t + 1) = n) := by show _ = _; omega
                have hcl : (Builtin.clear_ #[64] 0 #[.slice (some ⟨g, p, none⟩) (n - p) (c - p)]).run Tryz.prog wr = .ok (.tuple #[]) (wr.setCells g p (List.replicate (n - p) (.slice none 0 0))) := by
                  refine Lib.run_clear_slice wr 64 46 0 (.slice none 0 0) Tryz.underlying64 zero_row rfl rfl g p (n - p) (c - p) (by omega) (fun j hj => ?_) (fun j hj => ?_)
                  · obtain ⟨_, _, _, _, _, h1, _⟩ := RR.out.at (k := p + j) (by omega)
                    rw [h1]
                    rfl
                  · obtain ⟨_, _, _, _, _, _, h1, _⟩ := RR.out.at (k := p + j) (by omega)
                    exact h1
                have HF : Hid (CompPost lo (some ⟨g, 0, none⟩) n c ws w (.returned (.slice (some ⟨g, 0, none⟩) p c)) (wr.setCells g p (List.replicate (n - p) (.slice none 0 0)))) := by
                  obtain ⟨s1, s2⟩ := RowRow.behind (List.replicate (n - p) (.slice none 0 0)) _ p wr (Nat.le_refl _) (RR.out.cut (k := p) (by omega))
                  have hql : qs.length = n := by
                    have h1 := RR.out.rows.1
                    have h2 := RR.out.own.1
                    omega
                  have e : qs.take p = cmpt ws := by
                    rw [Q1.out, List.take_of_length_le (by have := HW.out; have := HN.out; omega)]
                  have el : (cmpt ws).length = p := by rw [← e, List.length_take]; omega
                  unfold Hid CompPost
                  rw [el, ← e]
                  exact ⟨_, rfl, s1.own, s1.rows, BB.out.trans s2⟩
                have m6 : (p : Int) ≤ (n : Int) := by omega
                have m7 : (p : Int) ≤ (c : Int) := by omega
                have m8 : ¬ c = p := by omega
                go_wp2
                go_returns
                exact HF.out
      · have HE : Hid (CompPost lo (some ⟨g, 0, none⟩) n c ws w (.returned (.slice (some ⟨g, 0, none⟩) n c)) wr) := by
          have e : cmpt ws = ws := by
            have := HQ.out
            rwa [show k + 1 = n by omega, List.take_of_length_le (by have := HW.out; omega)] at this
          unfold Hid CompPost
          rw [e, HW.out]
          exact ⟨us, rfl, HRw.out.own, HRw.out.rows, by rw [Q0.out]; exact (ButS.refl _ w).drewN _⟩
        have l1 : ¬ (k : Int) + 1 < (n : Int) := by omega
        clear HQ
        go_wp2
        go_returns
        exact HE.out
end Go.Proofs.YtpgbenijjodoeaaGreat
