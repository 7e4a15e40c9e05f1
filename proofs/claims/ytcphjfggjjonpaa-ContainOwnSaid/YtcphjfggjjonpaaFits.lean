/- What the law's fits computes, and its walk. -/
import Derived.Test.YtcphjfggjjonpaaKnown
namespace Go.Proofs.Ytcphjfggjjonpaa
open Go.ChangeShapes Go.WideShapes Go.ChangeAt Go.RowKit
def fitsGo (lit : Int) : List Term → List Term → Nat → TMap → Option TMap
  | t :: ts, o :: os, i, m =>
    if t.kind = 3 ∧ t ≠ o then none
    else if t.kind = 1 then
      match m t.text with
      | none => fitsGo lit ts os (i + 1) (updT m t.text (thingOf o lit i))
      | some y => if y = thingOf o lit i then fitsGo lit ts os (i + 1) (updT m t.text (thingOf o lit i)) else none
    else fitsGo lit ts os (i + 1) m
  | _, _, _, m => some m
def fits (m : TMap) (a onto : Atom) (lit : Int) : Option TMap :=
  if a.pred = onto.pred ∧ a.terms.length = onto.terms.length then fitsGo lit a.terms onto.terms 0 m else none
theorem fitsGo_step {lit : Int} {ts os : List Term} {k : Nat} {t o : Term} {m : TMap} (ht : ts.drop k = t :: ts.drop (k + 1)) (ho : os.drop k = o :: os.drop (k + 1)) :
    fitsGo lit (ts.drop k) (os.drop k) k m = if t.kind = 3 ∧ t ≠ o then none
      else if t.kind = 1 then
        match m t.text with
        | none => fitsGo lit (ts.drop (k + 1)) (os.drop (k + 1)) (k + 1) (updT m t.text (thingOf o lit k))
        | some y => if y = thingOf o lit k then fitsGo lit (ts.drop (k + 1)) (os.drop (k + 1)) (k + 1) (updT m t.text (thingOf o lit k)) else none
      else fitsGo lit (ts.drop (k + 1)) (os.drop (k + 1)) (k + 1) m := by
  rw [ht, ho, fitsGo]
def FitsPost (m : TMap) (a onto : Atom) (lit : Int) (mb : Nat) (w : World) (e : Ending) (w' : World) : Prop :=
  w.grownBy w' (some mb) ∧
  match fits m a onto lit with
  | none => e = .returned (.bool false)
  | some m' => e = .returned (.bool true) ∧ SMap w' mb (fv m')
theorem FitsPost.none {m : TMap} {a o : Atom} {lit : Int} {mb : Nat} {w w' : World} (h : fits m a o lit = none) (hg : w.grownBy w' (some mb)) : FitsPost m a o lit mb w (.returned (.bool false)) w' := by
  refine ⟨hg, ?_⟩
  rw [h]
theorem FitsPost.some {m m' : TMap} {a o : Atom} {lit : Int} {mb : Nat} {w w' : World} (h : fits m a o lit = some m') (hg : w.grownBy w' (some mb)) (hs : SMap w' mb (fv m')) : FitsPost m a o lit mb w (.returned (.bool true)) w' := by
  refine ⟨hg, ?_⟩
  rw [h]
  exact ⟨rfl, hs⟩
theorem neq_thing (x y : Thing) (w : World) : (binOp .neq 39 (.agg #[.int .i64 x.t.kind, .string x.t.text, .int .i64 x.literal, .int .i64 x.place]) (.agg #[.int .i64 y.t.kind, .string y.t.text, .int .i64 y.literal, .int .i64 y.place])).run Try.prog w = .ok (.bool (!thingEq x y)) w := by
  obtain ⟨⟨k, s⟩, l, p⟩ := x
  obtain ⟨⟨k', s'⟩, l', p'⟩ := y
  have e := toList_eq_iff s s'.toList
  have e2 : (⟨s'.toList.toArray⟩ : ByteArray) = s' := ((toList_eq_iff s' s'.toList).1 rfl).symm
  rw [e2] at e
  simp only [go_sem]
  simp [go_sem]
  by_cases h : k = k' <;> by_cases h2 : s = s' <;> by_cases h3 : l = l' <;> by_cases h4 : p = p' <;> simp [thingEq, h, h2, h3, h4, e]
theorem zero_thing2 (w : World) : (zeroValue 39).run Try.prog w = .ok (.agg #[.int .i64 0, .string ⟨#[]⟩, .int .i64 0, .int .i64 0]) w := by kernel_rfl
structure FitsSt (W : World) (mb : Nat) (m : TMap) (wr : World) : Prop where
  beside : W.grownBy wr (some mb)
  map : SMap wr mb (fv m)
theorem FitsSt.grow {W wr w2 : World} {mb : Nat} {m : TMap} (h : FitsSt W mb m wr) (k : Ext wr w2) : FitsSt W mb m w2 := ⟨gb_trans h.beside (gb_of_ext k _), h.map.ext k⟩
def FitsInv (m0 : TMap) (ts os : List Term) (lit : Int) (n : Nat) (W : World) (mb : Nat) (i : Value) (wr : World) : Prop :=
  ∃ (k : Nat) (m : TMap), k ≤ n ∧ i = .int .i64 k ∧ FitsSt W mb m wr ∧ fitsGo lit ts os 0 m0 = fitsGo lit (ts.drop k) (os.drop k) k m
set_option maxRecDepth 100000 in
set_option maxHeartbeats 2000000 in
theorem c_fits (m0 : TMap) (a o : Atom) (aa ao : Option Addr) (na ca no co : Nat) (lit : Int) (pb : Addr) (mb : Nat) (w : World) (hp : w.cell? pb = some (.map (some mb))) (hm : SMap w mb (fv m0)) (ha : TermsAt w aa na a.terms) (ho : TermsAt w ao no o.terms) :
    Calls Try.prog 14 #[.agg #[.string a.pred, .slice aa na ca], .agg #[.string o.pred, .slice ao no co], .int .i64 lit, .pointer (some pb)] w (FitsPost m0 a o lit mb w) := by
  have hn := ha.1
  have LA := Lib.hid ha.2.1
  have LO := Lib.hid ho.2.1
  have HA := Lib.hid ha
  have HO := Lib.hid ho
  have HM := Lib.hid hm
  have HP := Lib.hid hp
  clear ha ho hm hp
  obtain ⟨b1, e1⟩ : ∃ b, (a.pred.toList == o.pred.toList) = b := ⟨_, rfl⟩
  obtain ⟨b2, e2⟩ : ∃ b, ((na : Int) != no) = b := ⟨_, rfl⟩
  have fin : Hid (fits m0 a o lit = if (b1 && !b2) = true then fitsGo lit a.terms o.terms 0 m0 else none) := by
    show _ = _
    rw [beq_bytes] at e1
    subst e1 e2
    unfold fits
    rw [LA.out, LO.out]
    by_cases h : a.pred = o.pred <;> by_cases h2 : na = no
    · simp [h, h2]
    · have h3 : ¬ (na : Int) = no := by omega
      simp [h, h2, h3]
    · simp [h, h2]
    · simp [h, h2]
  cases b1 with
  | false =>
    go_enter Try.func14, Try.ntmps14
    go_wp2
    go_returns
    exact FitsPost.none (by rw [fin.out]; simp) (gb_of_ext (ext_alloc (ext_alloc (Below.refl _ _) _) _) _)
  | true =>
    cases b2 with
    | true =>
      go_enter Try.func14, Try.ntmps14
      go_wp2
      go_returns
      exact FitsPost.none (by rw [fin.out]; simp) (gb_of_ext (ext_alloc (ext_alloc (Below.refl _ _) _) _) _)
    | false =>
      obtain rfl : na = no := by
        have : (na : Int) = no := by simpa using e2
        omega
      go_enter Try.func14, Try.ntmps14
      go_wp2
      refine wp_gen (fun W hW => ?_)
      have hb0 : Ext w W := by rw [hW]; go_grown
      have x4 : W.cell? ⟨w.heap.size, 1, none⟩ = some (.slice aa na ca) := by rw [hW]; go_simp
      have x6 : W.cell? ⟨w.heap.size + 1, 1, none⟩ = some (.slice ao na co) := by rw [hW]; go_simp
      have xp := keep hb0 HP.out
      have hz : w.heap.size + 1 < W.heap.size := World.block_lt_of_cell? _ _ x6
      have hzp : pb.block < W.heap.size := World.block_lt_of_cell? _ _ xp
      have HMW := Lib.hid (HM.out.ext hb0)
      have hmb := HM.out.lt
      have HAW := Lib.hid (HA.out.keep hb0)
      have HOW := Lib.hid (HO.out.keep hb0)
      have fin2 : Hid (fits m0 a o lit = fitsGo lit a.terms o.terms 0 m0) := by
        have h := fin.out
        show _ = _
        simpa using h
      clear hW fin HA HO e1 e2
      go_loopw [8] (fun i wr => FitsInv m0 a.terms o.terms lit na W mb i wr) (fun i _ => na - (intOf i).toNat)
      case atStart => exact ⟨0, m0, by omega, rfl, ⟨gb_refl _ _, HMW.out⟩, by simp⟩
      case round =>
        obtain ⟨k, m, hk, rfl, hst, hq⟩ := hrel
        have y4 := hst.beside.cell x4 (fun e => smap_ne HMW.out x4 (Option.some.inj e))
        have y6 := hst.beside.cell x6 (fun e => smap_ne HMW.out x6 (Option.some.inj e))
        have yp := hst.beside.cell xp (fun e => smap_ne HMW.out xp (Option.some.inj e))
        have hz1 : w.heap.size + 1 < wr.heap.size := Nat.lt_of_lt_of_le hz hst.beside.size
        have hz0 : w.heap.size < wr.heap.size := Nat.lt_of_succ_lt hz1
        have hzq : pb.block < wr.heap.size := Nat.lt_of_lt_of_le hzp hst.beside.size
        have HQ := Lib.hid hq
        have HS := Lib.hid hst
        clear hq hst
        by_cases hlt : k < na
        · obtain ⟨t, bt, off, hx, rfl, hc1, hc2, hc3⟩ := (HAW.out.gb HS.out.beside HMW.out).2.at hlt
          obtain ⟨u, bu, offu, hxu, rfl, hu1, hu2, hu3⟩ := (HOW.out.gb HS.out.beside HMW.out).2.at hlt
          have hz2 := World.block_lt_of_cell? _ _ hu1
          have hz3 := World.block_lt_of_cell? _ _ hc1
          have HSTEP := Lib.hid (fitsGo_step (lit := lit) (m := m) (drop_at hx) (drop_at hxu))
          clear hx hxu
          obtain ⟨b3, e3⟩ : ∃ b, (u.kind == 2) = b := ⟨_, rfl⟩
          obtain ⟨L, hL⟩ : ∃ L, L = (thingOf u lit k).literal := ⟨_, rfl⟩
          obtain ⟨Pl, hPl⟩ : ∃ L, L = (thingOf u lit k).place := ⟨_, rfl⟩
          have HL := Lib.hid hL
          have HPl := Lib.hid hPl
          clear hL hPl
          go_upto_if 42 with (fail)
          go_cut [] (fun wc => wc = wr.alloc (.cells #[.int .i64 u.kind, .string u.text, .int .i64 L, .int .i64 Pl] 39))
          case first =>
            cases b3 with
            | true =>
              have hL : lit = L := by have := HL.out; simp only [thingOf] at this; rw [if_pos (by simpa using e3)] at this; exact this.symm
              have hP : (k : Int) = Pl := by have := HPl.out; simp only [thingOf] at this; rw [if_pos (by simpa using e3)] at this; exact this.symm
              have HL2 := Lib.hid hL
              have HP2 := Lib.hid hP
              clear hL hP HL HPl
              go_wp2
              go_meet
              show World.alloc _ _ = _
              rw [HL2.out, HP2.out]
            | false =>
              have hL : (0 : Int) = L := by have := HL.out; simp only [thingOf] at this; rw [if_neg (by simpa using e3)] at this; exact this.symm
              have hP : (0 : Int) = Pl := by have := HPl.out; simp only [thingOf] at this; rw [if_neg (by simpa using e3)] at this; exact this.symm
              have HL2 := Lib.hid hL
              have HP2 := Lib.hid hP
              clear hL hP HL HPl
              go_wp2
              go_meet
              rw [← HL2.out, ← HP2.out]
          case rest =>
            have hV2 := hcut
            clear hcut
            have hext : Ext wr wc := by rw [hV2]; exact ext_alloc (Below.refl _ _) _
            have q0 : wc.cell? ⟨wr.heap.size, 0, none⟩ = some (.int .i64 u.kind) := by rw [hV2]; go_simp
            have q1 : wc.cell? ⟨wr.heap.size, 1, none⟩ = some (.string u.text) := by rw [hV2]; go_simp
            have q2 : wc.cell? ⟨wr.heap.size, 2, none⟩ = some (.int .i64 L) := by rw [hV2]; go_simp
            have q3 : wc.cell? ⟨wr.heap.size, 3, none⟩ = some (.int .i64 Pl) := by rw [hV2]; go_simp
            have hc1 := keep hext hc1
            have hc2 := keep hext hc2
            have y4 := keep hext y4
            have yp := keep hext yp
            have hzv : wr.heap.size < wc.heap.size := World.block_lt_of_cell? _ _ q0
            clear hV2
            have HSV := Lib.hid (HS.out.grow hext)
            have hX : thingOf u lit k = ⟨u, L, Pl⟩ := by rw [HL.out, HPl.out]; rfl
            have HX := Lib.hid hX
            clear hX hu1 hu2 y6 e3
            obtain ⟨b4, e4⟩ : ∃ b, (t.kind == 3) = b := ⟨_, rfl⟩
            obtain ⟨b5, e5⟩ : ∃ b, (t.kind == 1) = b := ⟨_, rfl⟩
            cases b4 with
            | true =>
              have h3 : t.kind = 3 := by simpa using e4
              have h4 := Lib.hid h3
              have h5 : (t.kind == 1) = false := by rw [h3]; rfl
              obtain ⟨b6, e6⟩ : ∃ b, termEq t.kind t.text u.kind u.text = b := ⟨_, rfl⟩
              have eqt := neq_term t.kind u.kind t.text u.text
              rw [e6] at eqt
              have E6 := Lib.hid e6
              have H5 := Lib.hid h5
              clear h3 e6 e5 h5
              cases b6 with
              | true =>
                go_wp2
                go_quiet (fail)
                have h5 := H5.out
                go_wp2
                go_roundw
                case rel => exact ⟨k + 1, m, by omega, by go_num, HSV.out.grow (ext_drewN (Below.refl _ _) _), by
                  have htu : t = u := by have := E6.out; rw [termEq_iff] at this; simpa using this
                  rw [HQ.out, HSTEP.out, if_neg (fun h => h.2 htu), if_neg (by rw [h4.out]; decide)]⟩
                case measure => simp [intOf]; omega
              | false =>
                go_wp2
                go_quiet (fail)
                go_wp2
                go_returns
                refine FitsPost.none ?_ (gb_trans (gb_of_ext hb0 _) (HSV.out.grow (ext_drewN (Below.refl _ _) _)).beside)
                have htu : ¬ t = u := by have := E6.out; rw [termEq_iff] at this; simpa using this
                rw [fin2.out, HQ.out, HSTEP.out, if_pos ⟨h4.out, htu⟩]
            | false =>
              have h3 : ¬ t.kind = 3 := by simpa using e4
              have N3 := Lib.hid h3
              clear h3
              cases b5 with
              | false =>
                have h1 : ¬ t.kind = 1 := by simpa using e5
                have N1 := Lib.hid h1
                clear h1
                go_wp2
                go_quiet (fail)
                go_wp2
                go_roundw
                case rel => exact ⟨k + 1, m, by omega, by go_num, HSV.out.grow (ext_drewN (Below.refl _ _) _), by rw [HQ.out, HSTEP.out, if_neg (fun h => N3.out h.1), if_neg N1.out]⟩
                case measure => simp [intOf]; omega
              | true =>
                have h1 : t.kind = 1 := by simpa using e5
                have N1 := Lib.hid h1
                clear h1
                go_upto_region 12 with (first | (go_quiet (fail)) | fail)
                refine wp_gen (fun V hV => ?_)
                have hVe : Ext wc V := by rw [hV]; exact ext_drewN (Below.refl _ _) _
                clear hV
                have HV := Lib.hid (HSV.out.grow hVe)
                have q0 := keep hVe q0
                have q1 := keep hVe q1
                have q2 := keep hVe q2
                have q3 := keep hVe q3
                have y4 := keep hVe y4
                have yp := keep hVe yp
                have hc2 := keep hVe hc2
                have hzv := Nat.lt_of_lt_of_le hzv hVe.size
                have hzq := Nat.lt_of_lt_of_le hzq hext.size
                have hzq := Nat.lt_of_lt_of_le hzq hVe.size
                have hza : w.heap.size < V.heap.size := Nat.lt_trans hz0 hzv
                have hzb : bt < V.heap.size := World.block_lt_of_cell? _ _ hc2
                clear hVe hc1
                have hlk := run_look (P := Try.prog) (t := 35) (HV.out.map.ext (ext_drew (Below.refl _ _))) Try.underlying35 Try.underlying9 (zero_thing2 _) t.text true
                have hlk2 := run_look (P := Try.prog) (t := 35) (HV.out.map.ext (ext_drew (ext_alloc (Below.refl _ _) (.cells #[.int .i64 0, .string ⟨#[]⟩, .int .i64 0, .int .i64 0] 39)))) Try.underlying35 Try.underlying9 (zero_thing2 _) t.text true
                cases hmt : m t.text with
                | some y =>
                  have hf : fv m t.text = some (thingV y) := by simp [fv, hmt]
                  rw [hf] at hlk hlk2
                  simp only [Option.getD_some, Option.isSome_some, if_true, thingV] at hlk hlk2
                  have HMT := Lib.hid hmt
                  clear hf hmt
                  obtain ⟨b6, e6⟩ : ∃ b, thingEq y (thingOf u lit k) = b := ⟨_, rfl⟩
                  have eq := neq_thing y (thingOf u lit k)
                  rw [e6, HX.out] at eq
                  have E6 := Lib.hid e6
                  clear e6
                  cases b6 with
                  | false =>
                    go_region
                    all_goals go_wp2
                    all_goals go_returns
                    all_goals
                      refine FitsPost.none ?_ (gb_trans (gb_of_ext hb0 _) (HV.out.grow (w2 := _) ?_).beside)
                      · rw [fin2.out, HQ.out, HSTEP.out, if_neg (fun h => N3.out h.1), if_pos N1.out, HMT.out]
                        exact if_neg (by have := E6.out; simpa [thingEq] using this)
                      · go_grown
                  | true =>
                    go_region
                    all_goals go_upto_region 15 with (fail)
                    all_goals
                      refine wp_gen (fun U hU => ?_)
                      have hVU : Ext V U := by rw [hU]; go_grown
                      clear hU
                      have HU := Lib.hid (HV.out.grow hVU)
                      have q0 := keep hVU q0
                      have q1 := keep hVU q1
                      have q2 := keep hVU q2
                      have q3 := keep hVU q3
                      have y4 := keep hVU y4
                      have yp := keep hVU yp
                      have hc2 := keep hVU hc2
                      obtain ⟨om, hrun, hsm⟩ := run_upd (P := Try.prog) (t := 35) (HU.out.map.ext (ext_drew (Below.refl _ _))) Try.underlying35 Try.underlying9 t.text (thingV ⟨u, L, Pl⟩)
                      rw [fv_upd] at hsm
                      simp only [thingV] at hrun
                      have hgm := gb_trans (HU.out.grow (ext_drew (Below.refl _ _))).beside (setMap_grown U.drew mb om)
                      have HSM := Lib.hid (show FitsSt W mb (updT m t.text ⟨u, L, Pl⟩) (setMap U.drew mb om) from ⟨hgm, hsm⟩)
                      clear hsm hgm hVU
                      go_region
                      all_goals go_wp2
                      all_goals go_roundw
                      case rel =>
                        refine ⟨k + 1, updT m t.text ⟨u, L, Pl⟩, by omega, by go_num, HSM.out, ?_⟩
                        rw [HQ.out, HSTEP.out, if_neg (fun h => N3.out h.1), if_pos N1.out, HMT.out, HX.out]
                        exact if_pos (by have := E6.out; rw [HX.out] at this; simpa [thingEq] using this)
                      case measure => simp [intOf]; omega
                | none =>
                  have hf : fv m t.text = none := by simp [fv, hmt]
                  rw [hf] at hlk hlk2
                  simp only [Option.getD_none, Option.isSome_none, if_true] at hlk hlk2
                  have HMT := Lib.hid hmt
                  clear hf hmt
                  go_region
                  all_goals go_upto_region 15 with (fail)
                  all_goals
                    refine wp_gen (fun U hU => ?_)
                    have hVU : Ext V U := by rw [hU]; go_grown
                    clear hU
                    have HU := Lib.hid (HV.out.grow hVU)
                    have q0 := keep hVU q0
                    have q1 := keep hVU q1
                    have q2 := keep hVU q2
                    have q3 := keep hVU q3
                    have y4 := keep hVU y4
                    have yp := keep hVU yp
                    have hc2 := keep hVU hc2
                    obtain ⟨om, hrun, hsm⟩ := run_upd (P := Try.prog) (t := 35) (HU.out.map.ext (ext_drew (Below.refl _ _))) Try.underlying35 Try.underlying9 t.text (thingV ⟨u, L, Pl⟩)
                    rw [fv_upd] at hsm
                    simp only [thingV] at hrun
                    have hgm := gb_trans (HU.out.grow (ext_drew (Below.refl _ _))).beside (setMap_grown U.drew mb om)
                    have HSM := Lib.hid (show FitsSt W mb (updT m t.text ⟨u, L, Pl⟩) (setMap U.drew mb om) from ⟨hgm, hsm⟩)
                    clear hsm hgm hVU
                    go_region
                    all_goals go_wp2
                    all_goals go_roundw
                    case rel =>
                      refine ⟨k + 1, updT m t.text ⟨u, L, Pl⟩, by omega, by go_num, HSM.out, ?_⟩
                      rw [HQ.out, HSTEP.out, if_neg (fun h => N3.out h.1), if_pos N1.out, HMT.out, HX.out]
                    case measure => simp [intOf]; omega
        · go_wp2
          go_returns
          have h1 : a.terms.drop k = [] := List.drop_of_length_le (by have := LA.out; omega)
          refine FitsPost.some (m' := m) ?_ (gb_trans (gb_of_ext hb0 _) HS.out.beside) HS.out.map
          rw [fin2.out, HQ.out, h1]
          rfl
end Go.Proofs.Ytcphjfggjjonpaa
