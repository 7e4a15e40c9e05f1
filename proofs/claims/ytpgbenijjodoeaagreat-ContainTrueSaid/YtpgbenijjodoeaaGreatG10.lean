/- Rows.All and Rows.Each, of nil rows too; Base.Each. -/
import Derived.Test.YtpgbenijjodoeaaGreatG6
import Derived.Test.YtpgbenijjodoeaaGreatG9
namespace Go.Proofs.YtpgbenijjodoeaaGreat
open Go.ChangeShapes Go.WideShapes Go.ChangeAt Go.RowKit Go.Shelf
attribute [local go_sem] Oper.semAt_some
set_option maxRecDepth 100000 in
set_option maxHeartbeats 4000000 in
theorem c_allG (lo : Nat) (pv pv2 : Value) (rs : List (List ByteArray)) (w : World) (HSET : Hid (∀ W, Ext w W → Calls Tryz.prog 33 #[pv] W fun e w' => e = .returned pv2 ∧ w' = W)) (HEACH : Hid (∀ W, Ext w W → Calls Tryz.prog 60 #[pv2] W (EachPost lo rs W))) (hn : rs.length ≤ 1000000) (hr : ∀ r ∈ rs, r.length ≤ 1000000) :
    Calls Tryz.prog 32 #[pv] w (AllPost rs w) := by
  obtain ⟨i0, hi, hz0, hz1, hz2⟩ := info_parts info_row
  refine (callsIn_wide (n := 5)).1 ?_
  refine callsIn_of_wp_marks Tryz.func32 rfl trivial ?_
  simp only [Tryz.ntmps32, List.size_toArray, List.length_cons, List.length_nil, Nat.reduceAdd, Nat.reduceSub, Array.replicate_succ, Array.replicate_zero, List.push_toArray, List.append_toArray, List.nil_append, List.cons_append]
  have E0 : Hid (Ext w (w.alloc (.cells #[.slice none 0 0] 64))) := ext_alloc (Below.refl _ w) _
  gi_wp2_with (first
    | (refine ⟨trivial, ?_⟩; gi_at_call 33; refine (callsIn_wide.2 (HSET.out _ E0.out)).mono ?_; rintro e w1 ⟨rfl, hw1⟩; obtain rfl := hw1.symm)
    | (refine ⟨trivial, ?_⟩; gi_at_call 60; refine (callsIn_wide.2 (HEACH.out _ E0.out)).mono ?_; rintro e w2 ⟨bs, a2, c2, vs, rfl, hb1, hb2, hb3, hb4, hb5, hb6⟩))
  have sz0 : (w.alloc (.cells #[.slice none 0 0] 64)).heap.size = w.heap.size + 1 := by simp
  have hbx := boxed_ext (Boxed.new w 64 (.slice none 0 0)) hb6
  have sz2 : w.heap.size + 1 ≤ w2.heap.size := by have := hb6.size; omega
  have hE2 : Ext w w2 := ext_trans (ext_alloc (Below.refl _ w) _) hb6
  have h1v : ∀ v ∈ vs, ∃ a m c, v = Value.slice a m c := fun v hv => by
    obtain ⟨k, hk⟩ := List.mem_iff_getElem?.1 hv
    have hkl := (List.getElem?_eq_some_iff.1 hk).1
    obtain ⟨r, hrr⟩ : ∃ r, rs[k]? = some r := ⟨_, List.getElem?_eq_getElem (by have := hb5.1; omega)⟩
    obtain ⟨a, c, e, _⟩ := own_form (hb5.2 k r v hrr hk)
    exact ⟨a, _, c, e⟩
  refine wpIn_rangeFunc_ownG (F := Fence.wide) rfl (by omega) (gf := 59) (lb := #[.pointer (some ⟨bs, 0, none⟩)]) rfl trivial (enters_of Tryz.func59 (by kernel_rfl) rfl)
    (values_stops Fence.wide 4 trivial rfl (by omega) bs _ rs.length c2 a2 vs w2 hb4 h1v hn (fun b => b = w.heap.size ∨ w2.heap.size ≤ b) (fun b e => by have := hb4.lt b e; omega) hb2 hb3) (fun h k => h.trans k) (fun W l o o' hl _ _ _ => ButS.putObj W o' (.inr hl)) (Below.refl _ _) (fun _ => rfl)
    (fun pre W => BoxRows w2.heap.size w.heap.size (nthRows rs pre) W ∧ RowsAt lo W vs rs ∧ w2.heap.size ≤ W.heap.size ∧ Below w.heap.size w W)
    (fun _ _ _ => False)
    ?own
    (fun _ _ _ _ _ hs _ _ => hs)
    ⟨⟨[], none, 0, hbx, World.ownsRow_nil _ _ _ _, rfl, fun i r v h => by simp [nthRows] at h⟩, hb5.ext hb6, Nat.le_refl _, hE2⟩
    (fun x => { tmps := #[pv, undef, .slice none 0 0, .pointer (some ⟨w.heap.size, 0, none⟩), vs[x.1]?.getD undef, pv, pv2, .func (.func 59) #[] #[.pointer (some ⟨bs, 0, none⟩)], vs[x.1]?.getD undef, undef, undef, undef, undef, undef, undef], defers := [] }) ?assign ?body ?done ?stop
  case own =>
    refine OwnFrom.and (Own.from (fun s A B row hs hg hr => hs.keptN hg hr) _) (OwnFrom.and (Own.from (fun s A B row hs hg hr => hs.keptN hg hr) _) (OwnFrom.and (fun s A B row hs hg hr => Nat.le_trans hs hg.size) (ownFrom_below (Nat.le_refl _) (by omega))))
  case assign =>
    intro l x W K hK
    gi_wp2
    exact hK
  case body =>
    rintro l pre x W ⟨⟨us, a9, c9, bx9, row9, at9⟩, hvs, hsz, hE⟩ hlt
    obtain ⟨r, hr1⟩ : ∃ r, rs[x.1]? = some r := ⟨_, List.getElem?_eq_getElem x.2⟩
    obtain ⟨v, hv1⟩ : ∃ v, vs[x.1]? = some v := ⟨_, List.getElem?_eq_getElem (by rw [hvs.1]; exact x.2)⟩
    have hrl := hr r (List.mem_of_getElem? hr1)
    have ho1 := hvs.2 _ r v hr1 hv1
    obtain ⟨a7, c7, rfl, _⟩ := own_form ho1
    have hpl : (nthRows rs pre).length = pre.length := by simp [nthRows]
    have hv2 : vs[x.1]?.getD undef = .slice a7 r.length c7 := by rw [hv1]; rfl
    rw [hv2]
    obtain ⟨qs, hqs⟩ : ∃ qs, nthRows rs pre = qs := ⟨_, rfl⟩
    have HQS : Hid (nthRows rs (pre ++ [x]) = qs ++ [r]) := by show _ = _; rw [nthRows_snoc rs pre x hr1, hqs]
    rw [hqs] at bx9 row9 at9 hpl
    have CL := Lib.hid (c_cloneS r a7 r.length c7 W.drew (own_strs (ho1.drew) (own_len ho1).1) (by omega) (cap_of_own ho1).2)
    have hc9 := bx9.cell
    have hBW := bx9.lt
    have VS := Lib.hid hvs
    have hql : qs.length ≤ 1000000 := by omega
    clear hv2 hqs hvs hpl
    gi_wp2
    refine wpIn_region_any (by kernel_rfl) ?_
    change wpAnyIn _ _ _ _ _ _ _ _ _ (World.drew _)
    refine wpAnyIn_ready (rs := [0, 1]) (by kernel_rfl) (by simp) ?_
    refine (AllReadyIn.cons rfl (fun K hK => ?_) (AllReadyIn.cons rfl (fun K hK => ?_) AllReadyIn.nil))
    focus
      go_simp
      refine hK _ _ ?_
      clear hK K
      refine wpAnyIn_ready (rs := [1]) (by kernel_rfl) (by simp) ?_
      refine (AllReadyIn.cons rfl (fun K hK => ?_) AllReadyIn.nil)
      focus
        go_simp
        refine hK _ _ ?_
        clear hK K
        refine wpAnyIn_ready (rs := [2]) (by kernel_rfl) (by simp) ?_
        refine (AllReadyIn.cons rfl (fun K hK => ?_) AllReadyIn.nil)
        focus
          go_simp
          gi_wp2_with (refine ⟨trivial, ?_⟩; gi_at_call 58; refine (CallsIn.inRound l (callsIn_wide.2 CL.out)).mono ?_; rintro e w7 ⟨a7', c7', rfl, q7, _, e7⟩; have hc7 := keep e7 (show W.drew.cell? ⟨w.heap.size, 0, none⟩ = _ from hc9); have hc8 := fun o => keep (ext_alloc (Below.refl _ w7) o) hc7)
          refine wpAnyIn_ready (rs := [3]) (by kernel_rfl) (by simp) ?_
          refine (AllReadyIn.cons rfl (fun K hK => ?_) AllReadyIn.nil)
          focus
            go_simp
            refine hK _ _ ?_
            clear hK K
    rotate_left
    focus
      go_simp
      refine hK _ _ ?_
      clear hK K
      refine wpAnyIn_ready (rs := [0, 2]) (by kernel_rfl) (by simp) ?_
      refine (AllReadyIn.cons rfl (fun K hK => ?_) (AllReadyIn.cons rfl (fun K hK => ?_) AllReadyIn.nil))
      focus
        go_simp
        refine hK _ _ ?_
        clear hK K
        refine wpAnyIn_ready (rs := [2]) (by kernel_rfl) (by simp) ?_
        refine (AllReadyIn.cons rfl (fun K hK => ?_) AllReadyIn.nil)
        focus
          go_simp
          gi_wp2_with (refine ⟨trivial, ?_⟩; gi_at_call 58; refine (CallsIn.inRound l (callsIn_wide.2 CL.out)).mono ?_; rintro e w7 ⟨a7', c7', rfl, q7, _, e7⟩; have hc7 := keep e7 (show W.drew.cell? ⟨w.heap.size, 0, none⟩ = _ from hc9); have hc8 := fun o => keep (ext_alloc (Below.refl _ w7) o) hc7)
          refine wpAnyIn_ready (rs := [3]) (by kernel_rfl) (by simp) ?_
          refine (AllReadyIn.cons rfl (fun K hK => ?_) AllReadyIn.nil)
          focus
            go_simp
            refine hK _ _ ?_
            clear hK K
      rotate_left
      focus
        go_simp
        gi_wp2_with (refine ⟨trivial, ?_⟩; gi_at_call 58; refine (CallsIn.inRound l (callsIn_wide.2 CL.out)).mono ?_; rintro e w7 ⟨a7', c7', rfl, q7, _, e7⟩; have hc7 := keep e7 (show W.drew.cell? ⟨w.heap.size, 0, none⟩ = _ from hc9); have hc8 := fun o => keep (ext_alloc (Below.refl _ w7) o) hc7)
        refine wpAnyIn_ready (rs := [0, 3]) (by kernel_rfl) (by simp) ?_
        refine (AllReadyIn.cons rfl (fun K hK => ?_) (AllReadyIn.cons rfl (fun K hK => ?_) AllReadyIn.nil))
        focus
          go_simp
          refine hK _ _ ?_
          clear hK K
          refine wpAnyIn_ready (rs := [3]) (by kernel_rfl) (by simp) ?_
          refine (AllReadyIn.cons rfl (fun K hK => ?_) AllReadyIn.nil)
          focus
            go_simp
            refine hK _ _ ?_
            clear hK K
        rotate_left
        focus
          go_simp
          refine hK _ _ ?_
          clear hK K
          refine wpAnyIn_ready (rs := [0]) (by kernel_rfl) (by simp) ?_
          refine (AllReadyIn.cons rfl (fun K hK => ?_) AllReadyIn.nil)
          focus
            go_simp
            refine hK _ _ ?_
            clear hK K
    all_goals
      have bxW := boxed_ext (boxed_ext bx9 (ext_drew (Below.refl _ W))) e7
      have rowW := up_ext (up_ext row9 (ext_drew (Below.refl _ W))) e7
      have atW := (at9.ext (ext_drew (Below.refl _ W))).ext e7
      refine wpAnyIn_ready (rs := [4]) (by kernel_rfl) (by simp) ?_
      refine AllReadyIn.cons rfl (fun K hK => ?_) AllReadyIn.nil
      refine stepIn_append rfl _ _ 64 rfl w2.heap.size 46 i0 (.slice none 0 0) 1 24 Tryz.underlying64 hi hz0 hz1 hz2 rfl (by decide) (.slice a9 qs.length c9) qs.length us rfl (rowW.alloc _) ⟨w7.heap.size, 0, none⟩ 1 1 [.slice a7' r.length c7'] rfl rfl (cell_one_new _ _ _) (by simp [Value.oneCell']) (by unfold maxLen; omega) (by omega) (by have := e7.size; simp at this ⊢; omega) ?_
      intro v' w1 hown' hgrow
      obtain ⟨g', cap', rfl⟩ := ownsRow_succ hown'
      refine hK _ _ ?_
      clear hK K
      obtain ⟨p1, p2, p3, p4, p5, p6⟩ := BoxRows.push (n0 := w.heap.size) bxW rowW atW (own_base q7 (by simpa using hsz)) hown' hgrow (by omega) (Nat.le_refl _) (by have := e7.size; simp at this; omega)
      have hc1 := p1.cell
      have hf1 := p1.frozen
      refine wpAnyIn_ready (rs := [5]) (by kernel_rfl) (by simp) ?_
      refine AllReadyIn.cons rfl (fun K hK => ?_) AllReadyIn.nil
      go_simp
      refine hK _ _ ?_
      clear hK K
      refine wpAnyIn_done (by kernel_rfl) ?_ _
      have eD : Ext W w7 := ext_trans (ext_drew (Below.refl _ W)) e7
      gi_wp2
      exact ⟨((KeepsOthers.ext eD).trans p3).from _, ((ButS.refl _ W).ext eD).trans p5, by rw [HQS.out]; exact p2, p6 _ _ _ (VS.out.ext eD), Nat.le_trans hsz (Nat.le_trans eD.size p5.size), hE.trans ((eD.mono (by have := hE.size; omega)).trans p4)⟩
  case done =>
    rintro D ys W hD rfl ⟨⟨us, a9, c9, bx9, row9, at9⟩, hvs, hsz, hE⟩ hK
    rw [nthRows_to rs (Nat.le_refl _), List.take_length] at bx9 row9 at9
    have hc9 := bx9.cell
    gi_wp2
    refine ⟨by simp, .inl ⟨_, _, rfl, run_takeDeferred hK, ?_⟩⟩
    have hg := grownBy_putObj' W D (.deferred none)
    have hr : ∀ r, some D = some r → ∃ o : Obj, W.heap[r]? = some o ∧ o.isCells = false := fun r e => by cases e; exact ⟨_, hK, rfl⟩
    have at10 := at9.keptN hg hr
    exact ⟨_, results_tmp rfl _ _ _, a9, c9, us, rfl, own_base (own_keptN row9 hg hr) (by omega), ⟨at10.1, fun i r v h1 h2 => own_base (at10.2 i r v h1 h2) (by omega)⟩, hE.trans (belowK_b (w := w) (Nat.le_refl _) W D _ _ (by omega) hK rfl rfl)⟩
  case stop =>
    rintro D c pre W _ _ h _
    exact h.elim
theorem c_setN (w : World) : Calls Tryz.prog 33 #[.pointer none] w fun e w' => e = .returned (.pointer none) ∧ w' = w := by
  go_enter Tryz.func33, Tryz.ntmps33
  go_wp2
  go_returns
  exact ⟨rfl, rfl⟩
theorem c_itemsN (w : World) : Calls Tryz.prog 75 #[.pointer none] w fun e w' => e = .returned (.slice none 0 0) ∧ w' = w := by
  go_enter Tryz.func75, Tryz.ntmps75
  go_wp2
  go_returns
  exact ⟨rfl, rfl⟩
theorem c_eachSN (lo : Nat) (w : World) : Calls Tryz.prog 60 #[.pointer none] w (EachPost lo [] w) := by
  have IT := Lib.hid (c_itemsN w)
  go_enter Tryz.func60, Tryz.ntmps60
  go_wp2_with (first
    | (go_at_call 75; (with_reducible refine IT.out.mono ?_); rintro e w1 ⟨rfl, hw1⟩; obtain rfl := hw1.symm)
    | (go_at_call 31; (with_reducible refine (c_values _ _ _ _).mono ?_); rintro e w2 ⟨rfl, hw2⟩; obtain rfl := hw2.symm))
  go_returns
  exact ⟨_, none, 0, [], rfl, Nat.le_refl _, by simp, (Boxed.new _ _ _).cell, World.ownsRow_nil _ _ _ _, ⟨rfl, fun i r v h => by simp at h⟩, ext_alloc (Below.refl _ _) _⟩
/-- The rows under a pointer that may be nil. -/
def RelAt (w : World) (x : Option (Nat × Nat × List (List ByteArray))) (rs : List (List ByteArray)) : Prop := match x with
  | none => rs = []
  | some x => RowsV w (x.1 + 1) x.1 x.2.1 x.2.2 ∧ rs = x.2.2
theorem c_allO (x : Option (Nat × Nat × List (List ByteArray))) (rs : List (List ByteArray)) (w : World) (h : RelAt w x rs) (hn : rs.length ≤ 1000000) (hr : ∀ r ∈ rs, r.length ≤ 1000000) :
    Calls Tryz.prog 32 #[relP x] w (AllPost rs w) := by
  cases x with
  | none =>
    obtain rfl : rs = [] := h
    exact c_allG 0 (.pointer none) (.pointer none) [] w (fun W _ => c_setN W) (fun W _ => c_eachSN 0 W) hn hr
  | some x =>
    obtain ⟨h1, rfl⟩ := h
    exact c_allG (x.1 + 1) _ _ x.2.2 w (fun W hW => c_set _ x.1 x.2.1 x.2.2 W (h1.ext hW)) (fun W hW => c_eachS _ x.1 x.2.1 x.2.2 W (h1.ext hW) hn) hn hr
/-- The iterator over rows of one's own: its box, the rows in new memory. -/
def EachRowP (rs : List (List ByteArray)) (w : World) (e : Ending) (w' : World) : Prop := ∃ bs a c vs, e = .returned (.func (.func 59) #[] #[.pointer (some ⟨bs, 0, none⟩)]) ∧ w.heap.size ≤ bs ∧ bs < w'.heap.size ∧ w'.cell? ⟨bs, 0, none⟩ = some (.slice a rs.length c) ∧ w'.ownsRow w.heap.size 46 1 (.slice a rs.length c) rs.length vs ∧ RowsAt w.heap.size w' vs rs ∧ Ext w w'
theorem c_eachRow (x : Option (Nat × Nat × List (List ByteArray))) (rs : List (List ByteArray)) (w : World) (h : RelAt w x rs) (hn : rs.length ≤ 1000000) (hr : ∀ r ∈ rs, r.length ≤ 1000000) :
    Calls Tryz.prog 12 #[relP x] w (EachRowP rs w) := by
  have AL := Lib.hid (c_allO x rs w h hn hr)
  generalize relP x = pv at AL ⊢
  clear h hn hr
  go_enter Tryz.func12, Tryz.ntmps12
  go_wp2_with (first
    | (go_at_call 32; (with_reducible refine AL.out.mono ?_); rintro e w1 ⟨a, c, us, rfl, h1, h2, h3⟩)
    | (go_at_call 31; (with_reducible refine (c_values _ _ _ _).mono ?_); rintro e w2 ⟨rfl, hw2⟩; obtain rfl := hw2.symm))
  go_returns
  exact ⟨w1.heap.size, a, c, us, rfl, h3.size, by simp, (Boxed.new w1 _ _).cell, up_ext h1 (ext_alloc (Below.refl _ _) _), h2.ext (ext_alloc (Below.refl _ _) _), ext_alloc h3 _⟩
def rowsIn (f : RelM) (k : ByteArray) : List (List ByteArray) := match f k with
  | some x => x.2.2
  | none => []
theorem c_eachB (lo bb : Nat) (f : RelM) (k : ByteArray) (w : World) (h : BaseV w lo bb f) :
    Calls Tryz.prog 99 #[.pointer (some ⟨bb, 0, none⟩), .string k] w (EachRowP (rowsIn f k) w) := by
  have OF := Lib.hid (c_of lo bb f k w h)
  have ER := Lib.hid (c_eachRow (f k) (rowsIn f k) w (by
    unfold RelAt rowsIn
    cases hf : f k with
    | none => rfl
    | some x => exact ⟨(h.r.rel k x hf).2.1, rfl⟩) (by
    unfold rowsIn
    cases hf : f k with
    | none => simp
    | some x => have := (h.r.rel k x hf).2.2.2.few; simp only; omega) (fun r hr => by
    unfold rowsIn at hr
    cases hf : f k with
    | none => rw [hf] at hr; simp at hr
    | some x =>
      rw [hf] at hr
      have h1 := ((h.r.rel k x hf).2.2.2.row r hr).1
      have h2 := (h.r.rel k x hf).2.2.2.wide
      omega))
  clear h
  generalize relP (f k) = pv at OF ER
  go_enter Tryz.func99, Tryz.ntmps99
  go_wp2_with (first
    | (go_at_call 112; (with_reducible refine OF.out.mono ?_); rintro e w1 ⟨rfl, hw1⟩; obtain rfl := hw1.symm)
    | (go_at_call 12; (with_reducible refine ER.out.mono ?_); rintro e w2 ⟨bs, a, c, vs, rfl, g⟩))
  go_returns
  exact ⟨bs, a, c, vs, rfl, g⟩
end Go.Proofs.YtpgbenijjodoeaaGreat
