/- The walk of print.renamer.term. -/
import Derived.Test.YtlalgaioiapjmaaGreatDoorG30
import Derived.Lib.ItoaLen
import Derived.Deep.CutBlock
namespace Go.Proofs.YtlalgaioiapjmaaGreatDoor
open Go.ChangeShapes Go.WideShapes Go.ChangeAt Go.RowKit
open K (AL Term varK)
theorem renT_some {m : AL ByteArray} {t : Term} {v : ByteArray} (hv : varK t.kind = true) (hg : getL m t.text = some v) : renT m t = (m, { t with text := v }) := by
  unfold renT
  rw [if_pos hv, hg]
theorem renT_none {m : AL ByteArray} {t : Term} (hv : varK t.kind = true) (hg : getL m t.text = none) : renT m t = (putL m t.text (nmV (m.length + 1)), { t with text := nmV (m.length + 1) }) := by
  unfold renT
  rw [if_pos hv, hg]
theorem renT_no {m : AL ByteArray} {t : Term} (hv : ¬ varK t.kind = true) : renT m t = (m, t) := by
  unfold renT
  rw [if_neg hv]
/-- Where the walk's boxes lie. -/
structure TmSt (w : World) (kd : Int) (s : ByteArray) (W : World) : Prop where
  box : Blk W w.heap.size 42 [.int .i64 kd, .string s]
  out : Blk W (w.heap.size + 1) 42 [.int .i64 0, .string ⟨#[]⟩]
theorem TmSt.start (w : World) (kd : Int) (s : ByteArray) : TmSt w kd s ((w.alloc (.cells #[.int .i64 kd, .string s] 42)).alloc (.cells #[.int .i64 0, .string ⟨#[]⟩] 42)) := by
  refine ⟨(Blk.new w [.int .i64 kd, .string s] 42).ext (ext_alloc (Below.refl _ _) _), ?_⟩
  have := Blk.new (w.alloc (.cells #[.int .i64 kd, .string s] 42)) [.int .i64 0, .string ⟨#[]⟩] 42
  rw [World.size_alloc] at this
  exact this
theorem put2_but {w W : World} (v0 v1 : Value) {S : Nat → Prop} (h : ButS S w W) : ButS S w ((W.setCell ⟨w.heap.size + 1, 0, none⟩ v0).setCell ⟨w.heap.size + 1, 1, none⟩ v1) :=
  (h.set (.inr (by simp)) _ _).set (.inr (by simp)) _ _
set_option maxRecDepth 100000 in
set_option maxHeartbeats 4000000 in
theorem c_term_no (m : AL ByteArray) (b : Nat) (t : Term) (w : World) (h : RMap w b m) (hv : ¬ varK t.kind = true) :
    Calls Tryz.prog 110 #[.map (some b), .agg #[.int .i64 t.kind, .string t.text]] w (TermPost m b t w) := by
  have H := Lib.hid h
  have hbl := h.1.lt
  have k1 : (t.kind == 1) = false := by simp [varK] at hv; simpa using hv.1.1.1
  have k5 : (t.kind == 5) = false := by simp [varK] at hv; simpa using hv.1.1.2
  have k6 : (t.kind == 6) = false := by simp [varK] at hv; simpa using hv.1.2
  have k7 : (t.kind == 7) = false := by simp [varK] at hv; simpa using hv.2
  have RT := Lib.hid (renT_no (m := m) hv)
  clear h hv
  go_enter Tryz.func110, Tryz.ntmps110
  go_upto_region 1 with (fail)
  refine wp_gen (fun W hW => ?_)
  have S0 : TmSt w t.kind t.text W := by rw [hW]; exact TmSt.start w t.kind t.text
  have E0 : Ext w W := by rw [hW]; exact ext_alloc (ext_alloc (Below.refl _ _) _) _
  have b0 := S0.box.cell (i := 0) rfl
  have b1 := S0.box.cell (i := 1) rfl
  have o0 := S0.out.cell (i := 0) rfl
  have o1 := S0.out.cell (i := 1) rfl
  have of_ := S0.out.free
  have HS := Lib.hid S0
  have HE := Lib.hid E0
  clear hW S0 E0
  go_wp2
  refine bodyPost_ret (res_term rfl rfl ((HS.out.out.set 0 (.int .i64 t.kind)).set 1 (.string t.text))) rfl ?_
  unfold TermPost
  rw [RT.out]
  have b9 : ButS (fun x => x = b) w ((W.setCell ⟨w.heap.size + 1, 0, none⟩ (.int .i64 t.kind)).setCell ⟨w.heap.size + 1, 1, none⟩ (.string t.text)) := put2_but _ _ ((ButS.refl _ w).ext HE.out)
  have e9 : Ext w ((W.setCell ⟨w.heap.size + 1, 0, none⟩ (.int .i64 t.kind)).setCell ⟨w.heap.size + 1, 1, none⟩ (.string t.text)) := ext_set (ext_set HE.out (by simp) _) (by simp) _
  exact ⟨rfl, H.out.ext e9, b9⟩
set_option maxRecDepth 100000 in
set_option maxHeartbeats 4000000 in
theorem c_term_old (m : AL ByteArray) (b : Nat) (t : Term) (v : ByteArray) (w : World) (h : RMap w b m) (hk : okS t.text) (hv : varK t.kind = true) (hg : getL m t.text = some v) :
    Calls Tryz.prog 110 #[.map (some b), .agg #[.int .i64 t.kind, .string t.text]] w (TermPost m b t w) := by
  have H := Lib.hid h
  have hbl := h.1.lt
  have hkind : t.kind = 1 ∨ t.kind = 5 ∨ t.kind = 6 ∨ t.kind = 7 := by simpa [varK, or_assoc] using hv
  obtain ⟨p, hp1, hp2⟩ := getL_mem hg
  have hvn : v ≠ ⟨#[]⟩ := by rw [← hp2]; exact (h.2 p hp1).1
  have hve : v.toList.isEmpty = false := by
    cases hl : v.toList with
    | nil => exact absurd ((toList_eq_iff v []).1 hl) hvn
    | cons a l => rfl
  have RT := Lib.hid (renT_some (m := m) hv hg)
  have LK : Hid (∀ W, Ext w W → (Instr.lookup 166 (.map (some b)) (.string t.text) false).run Tryz.prog W = .ok (.string v) W) := fun W e => by
    have := (h.ext e).get t.text hk
    rwa [hg] at this
  clear h hv hg hp1 hp2 hvn
  go_enter Tryz.func110, Tryz.ntmps110
  go_upto_region 1 with (fail)
  refine wp_gen (fun W hW => ?_)
  have S0 : TmSt w t.kind t.text W := by rw [hW]; exact TmSt.start w t.kind t.text
  have E0 : Ext w W := by rw [hW]; exact ext_alloc (ext_alloc (Below.refl _ _) _) _
  have b0 := S0.box.cell (i := 0) rfl
  have b1 := S0.box.cell (i := 1) rfl
  have bf := S0.box.free
  have o0 := S0.out.cell (i := 0) rfl
  have o1 := S0.out.cell (i := 1) rfl
  have of_ := S0.out.free
  have HS := Lib.hid S0
  have HE := Lib.hid E0
  have lk := LK.out W E0
  have FIN : Hid (∀ W', W' = W.setCell ⟨w.heap.size, 1, none⟩ (.string v) → Blk W' (w.heap.size + 1) 42 [.int .i64 0, .string ⟨#[]⟩] ∧ Ext w W') := fun W' e => by
    subst e
    exact ⟨HS.out.out.other (by simp) _, ext_set HE.out (Nat.le_refl _) _⟩
  clear hW S0 E0 LK
  obtain ⟨kd, hkd⟩ : ∃ kd, t.kind = kd := ⟨_, rfl⟩
  have HKD := Lib.hid hkd
  rw [hkd] at hkind b0 ⊢
  clear hkd
  rcases hkind with rfl | rfl | rfl | rfl
  all_goals
    go_wp2
    have F9 := FIN.out (W.setCell ⟨w.heap.size, 1, none⟩ (.string v)) rfl
    have B9 := fun k : Int => (F9.1.set 0 (.int .i64 k)).set 1 (.string v)
    first | (refine bodyPost_ret (res_term rfl rfl (B9 1)) rfl ?_) | (refine bodyPost_ret (res_term rfl rfl (B9 5)) rfl ?_) | (refine bodyPost_ret (res_term rfl rfl (B9 6)) rfl ?_) | (refine bodyPost_ret (res_term rfl rfl (B9 7)) rfl ?_)
    unfold TermPost
    rw [RT.out, HKD.out]
    exact ⟨rfl, H.out.ext (ext_set (ext_set F9.2 (by simp) _) (by simp) _), put2_but _ _ ((ButS.refl _ w).ext F9.2)⟩
set_option maxRecDepth 100000 in
set_option maxHeartbeats 4000000 in
theorem c_term_new (m : AL ByteArray) (b : Nat) (t : Term) (w : World) (h : RMap w b m) (hT : TabOk w) (hk : okS t.text) (hm : m.length ≤ 1000000) (hv : varK t.kind = true) (hg : getL m t.text = none) :
    Calls Tryz.prog 110 #[.map (some b), .agg #[.int .i64 t.kind, .string t.text]] w (TermPost m b t w) := by
  have H := Lib.hid h
  have hbl := h.1.lt
  have hkind : t.kind = 1 ∨ t.kind = 5 ∨ t.kind = 6 ∨ t.kind = 7 := by simpa [varK, or_assoc] using hv
  have RT := Lib.hid (renT_none (m := m) hv hg)
  obtain ⟨nv, hnv⟩ : ∃ nv, nmV (m.length + 1) = nv := ⟨_, rfl⟩
  rw [hnv] at RT
  have hnn : nv ≠ ⟨#[]⟩ := by rw [← hnv]; exact nmV_ne _
  obtain ⟨si, hsi⟩ : ∃ si, Lib.itoa ((m.length : Int) + 1) = si := ⟨_, rfl⟩
  have hsl : si.length ≤ 20 := by
    rw [← hsi]
    unfold Lib.itoa
    rw [if_neg (by omega), Lib.decDigits_length]
    exact Lib.nDigits_le20 _ (by omega)
  have HNV : Hid ((⟨#[86]⟩ : ByteArray) ++ ⟨si.toArray⟩ = nv) := by
    show _ = _
    rw [← hnv, ← hsi]
    unfold nmV
    rfl
  have hcon : ¬ 9223372036854775807 < 1 + si.length := by omega
  have hnz : nv.size ≤ maxLen := by
    rw [← HNV.out, ByteArray.size_append]
    have h1 : (⟨#[86]⟩ : ByteArray).size = 1 := rfl
    have h2 : (⟨si.toArray⟩ : ByteArray).size = si.length := by show si.toArray.size = _; simp
    rw [h1, h2]
    unfold maxLen
    omega
  have LK : Hid (∀ W, Ext w W → (Instr.lookup 166 (.map (some b)) (.string t.text) false).run Tryz.prog W = .ok (.string ⟨#[]⟩) W) := fun W e => by
    have := (h.ext e).get t.text hk
    rwa [hg] at this
  have LN : Hid (∀ W ty, Ext w W → (Builtin.len_ #[166] ty #[.map (some b)]).run Tryz.prog W = .ok (.int .i64 (m.length : Nat)) W) := fun W ty e => (h.ext e).len ty
  have IT : Hid (∀ W, Ext w W → Calls Tryz.prog 145 #[.int .i64 ((m.length : Int) + 1)] W fun e w' => e = .returned (.string ⟨si.toArray⟩) ∧ Ext W w') := fun W e => by
    have := c_itoa (m.length + 1) (by omega) W (hT.ext e)
    rw [show ((m.length + 1 : Nat) : Int) = (m.length : Int) + 1 by omega, hsi] at this
    exact this
  have UP : Hid (∀ W, Ext w W → ∃ o, (Instr.mapUpdate 166 (.map (some b)) (.string t.text) (.string ((⟨#[86]⟩ : ByteArray) ++ ⟨si.toArray⟩))).run Tryz.prog W = .ok () (K.setMap W b o) ∧ RMap (K.setMap W b o) b (putL m t.text nv)) := fun W e => by
    rw [HNV.out]
    exact (h.ext e).set t.text hk nv ⟨hnn, hnz⟩
  clear h hT hv hg hnv hsi hsl hnn hnz
  go_enter Tryz.func110, Tryz.ntmps110
  go_upto_region 1 with (fail)
  refine wp_gen (fun W hW => ?_)
  have S0 : TmSt w t.kind t.text W := by rw [hW]; exact TmSt.start w t.kind t.text
  have E0 : Ext w W := by rw [hW]; exact ext_alloc (ext_alloc (Below.refl _ _) _) _
  have b0 := S0.box.cell (i := 0) rfl
  have b1 := S0.box.cell (i := 1) rfl
  have HS := Lib.hid S0
  have HE := Lib.hid E0
  have lk := LK.out W E0
  clear hW S0 E0
  obtain ⟨kd, hkd⟩ : ∃ kd, t.kind = kd := ⟨_, rfl⟩
  have HKD := Lib.hid hkd
  rw [hkd] at hkind b0 ⊢
  clear hkd
  go_upto_block 0 with (fail)
  go_step
  go_step
  go_cut [7] (fun v wc => v = .bool true ∧ wc = W)
  case first =>
    rcases hkind with rfl | rfl | rfl | rfl
    all_goals
      go_wp2
      go_meet
      exact ⟨rfl, rfl⟩
  obtain ⟨rfl, hwc⟩ := hcut
  obtain rfl := hwc.symm
  have ST : Hid (∀ w5 o5, Ext W w5 → RMap (K.setMap w5 b o5) b (putL m t.text nv) → TmSt w kd t.text (K.setMap w5 b o5) ∧ ButS (fun x => x = b) w (K.setMap w5 b o5) ∧ RMap (K.setMap w5 b o5) b (putL m t.text nv)) := fun w5 o5 e5 r5 => by
    have b5 := setMap_but w5 b o5
    have hB := HS.out
    have hb1 : w.heap.size ≠ b := by omega
    have hb2 : w.heap.size + 1 ≠ b := by omega
    have hB2 : TmSt w kd t.text W := by
      have := HS.out
      rwa [HKD.out] at this
    exact ⟨⟨(hB2.box.ext e5).but b5 hb1, (hB2.out.ext e5).but b5 hb2⟩, ((ButS.refl (fun x => x = b) w).ext (ext_trans HE.out e5)).trans b5, r5⟩
  have E1 : Ext w W.drew := ext_drew HE.out
  have b1d : W.drew.cell? ⟨w.heap.size, 1, none⟩ = some (.string t.text) := b1
  have ln := fun ty => LN.out W.drew ty E1
  have IW := Lib.hid (IT.out W.drew E1)
  have wr1 : IntKind.i64.wrap ((m.length : Int) + 1) = (m.length : Int) + 1 := by rw [IntKind.wrap_i64]; omega
  have mixed : Tryz.prog.follows .mixedOrders = true := by kernel_rfl
  clear hwc HS IT LK LN hkind
  go_upto_if 16 with (fail)
  go_cut [] (fun w6 => TmSt w kd t.text w6 ∧ ButS (fun x => x = b) w w6 ∧ RMap w6 b (putL m t.text nv))
  case first =>
    go_upto_region 7 with (fail)
    go_region_law (first
      | (go_simp; go_wp2_with (go_at_call 145; (with_reducible refine IW.out.mono ?_); rintro e w5 ⟨rfl, E5⟩; have b5 := keep E5 b1d; (obtain ⟨o5, up5, rm5⟩ := UP.out w5 (ext_trans E1 E5)); have RM5 := Lib.hid (ST.out w5 o5 (ext_trans (ext_drew (Below.refl _ _)) E5) rm5); clear rm5))
      | fail)
    all_goals
      go_wp2
      go_meet
      exact RM5.out
  obtain ⟨s6, bt6, r6⟩ := hcut
  have b1 := s6.box.cell (i := 1) rfl
  have bf := s6.box.free
  have o0 := s6.out.cell (i := 0) rfl
  have o1 := s6.out.cell (i := 1) rfl
  have of_ := s6.out.free
  have b0 := s6.box.cell (i := 0) rfl
  have lk : (Instr.lookup 166 (.map (some b)) (.string t.text) false).run Tryz.prog wc = .ok (.string nv) wc := by
    have := r6.get t.text hk
    rwa [getL_putL, if_pos rfl] at this
  have FIN : Hid (∀ W', W' = wc.setCell ⟨w.heap.size, 1, none⟩ (.string nv) → Blk W' (w.heap.size + 1) 42 [.int .i64 0, .string ⟨#[]⟩] ∧ ButS (fun x => x = b) w W' ∧ RMap W' b (putL m t.text nv)) := fun W' e => by
    subst e
    have e6 : ButS (fun x => x = w.heap.size) wc (wc.setCell ⟨w.heap.size, 1, none⟩ (.string nv)) := (ButS.refl (fun x => x = w.heap.size) wc).set (.inl rfl) _ _
    have hbne : b ≠ w.heap.size := by omega
    exact ⟨s6.out.other (by simp) _, bt6.set (.inr (Nat.le_refl _)) _ _, r6.but e6 hbne⟩
  have hb0 : b ≠ w.heap.size + 1 := by omega
  clear s6 bt6 r6 b1d ln IW wr1 mixed UP E1 HE ST
  go_wp2
  have F9 := FIN.out (wc.setCell ⟨w.heap.size, 1, none⟩ (.string nv)) rfl
  refine bodyPost_ret (res_term rfl rfl ((F9.1.set 0 (.int .i64 kd)).set 1 (.string nv))) rfl ?_
  unfold TermPost
  rw [RT.out, HKD.out]
  have e8 : ButS (fun x => x = w.heap.size + 1) (wc.setCell ⟨w.heap.size, 1, none⟩ (.string nv)) (((wc.setCell ⟨w.heap.size, 1, none⟩ (.string nv)).setCell ⟨w.heap.size + 1, 0, none⟩ (.int .i64 kd)).setCell ⟨w.heap.size + 1, 1, none⟩ (.string nv)) := ((ButS.refl (fun x => x = w.heap.size + 1) _).set (.inl rfl) _ _).set (.inl rfl) _ _
  exact ⟨rfl, F9.2.2.but e8 hb0, put2_but _ _ F9.2.1⟩
theorem c_term (m : AL ByteArray) (b : Nat) (t : Term) (w : World) (h : RMap w b m) (hT : TabOk w) (hk : okS t.text) (hm : m.length ≤ 1000000) :
    Calls Tryz.prog 110 #[.map (some b), .agg #[.int .i64 t.kind, .string t.text]] w (TermPost m b t w) := by
  by_cases hv : varK t.kind = true
  · cases hg : getL m t.text with
    | some v => exact c_term_old m b t v w h hk hv hg
    | none => exact c_term_new m b t w h hT hk hm hv hg
  · exact c_term_no m b t w h hv
end Go.Proofs.YtlalgaioiapjmaaGreatDoor
