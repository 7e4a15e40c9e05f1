/- The walk of the search's leap. The walk of the search's from: one variable more. -/
import Derived.Test.YtpgbenijjodoeaaGreatG2
import Derived.Test.YtpgbenijjodoeaaGreatG8
import Derived.Test.YtpgbenijjodoeaaGreatG27
import Derived.Deep.LoopGhost
namespace Go.Proofs.YtpgbenijjodoeaaGreat
open Go.ChangeShapes Go.WideShapes Go.ChangeAt Go.RowKit
abbrev Taker : Type := List (List ByteArray) → (Nat → Prop) → World → Prop
def FromPost (sc : Scn) (J : Taker) (Jx : (Nat → Prop) → World → Prop) (out : List (List ByteArray)) (row : List ByteArray) (L : Nat → List RLv) (F : Nat → Prop) (W : World) (e : Ending) (w' : World) : Prop :=
  (e = .returned (.bool true) ∧ Mv sc (J out) W row L F w') ∨ (e = .returned (.bool false) ∧ Mv sc Jx W row L F w')
def Lvs (sc : Scn) (row : List ByteArray) (v : Nat) (L : Nat → List RLv) : Prop := Live sc.ts row v ∧ ∀ i t, sc.ts[i]? = some t → rkeys (L i) = t.pre row v ∧ rend (L i) = false
def FromOk (sc : Scn) (J : Taker) (Jx : (Nat → Prop) → World → Prop) (v k : Nat) : Prop :=
  ∀ (done : List (List ByteArray)) (row : List ByteArray) (W : World) (L : Nat → List RLv) (F : Nat → Prop), row.length = v → WSt sc (J done) W row L F → Lvs sc row v L →
    Calls Tryz.prog 89 #[.pointer (some ⟨sc.pw, 0, none⟩), .int .i64 (v : Nat)] W (FromPost sc J Jx (done ++ binds sc.ts sc.p k v row) row L F W)
def LeapPost (sc : Scn) (J : Taker) (Jx : (Nat → Prop) → World → Prop) (out : List (List ByteArray)) (row : List ByteArray) (v : Nat) (L : Nat → List RLv) (F : Nat → Prop) (W : World) (e : Ending) (w' : World) : Prop :=
  ∃ pos, FromPost sc J Jx out row (lvl sc.ts row v L pos) F W e w'
/-- At the head of a turn: cursor number i of the list; mm keys are done. -/
def LeapSt (sc : Scn) (J : Taker) (done : List (List ByteArray)) (row : List ByteArray) (v k : Nat) (L : Nat → List RLv) (F : Nat → Prop) (W : World) (c mm : Nat) (pos : Nat → Nat) (wr : World) : Prop :=
  Mv sc (J (done ++ ((common sc.ts row v).take mm).flatMap fun key => binds sc.ts sc.p k (v + 1) (row ++ [key]))) W row (lvl sc.ts row v L pos) F wr ∧ LeapI sc.ts row v pos mm c
theorem Lvs.step {sc : Scn} (ST : Sta sc) {row : List ByteArray} {L : Nat → List RLv} {v : Nat} (hl : row.length = v) (h : Lvs sc row v L) {pos : Nat → Nat} {key : ByteArray} (hall : ∀ c t', sc.ts[c]? = some t' → v ∈ t'.vars → (t'.keys row v)[pos c]? = some key) : Lvs sc (row ++ [key]) (v + 1) (lvl sc.ts row v L pos) := by
  refine ⟨Live.step (n := sc.n) (fun t ht => ST.jok t ht) hl h.1 (fun t' ht' hv => ?_), ?_⟩
  · obtain ⟨c, hc⟩ := List.mem_iff_getElem?.1 ht'
    exact List.mem_of_getElem? (hall c t' hc hv)
  intro i t ht
  have ok := ST.jok t (List.mem_of_getElem? ht)
  obtain ⟨h1, h2⟩ := h.2 i t ht
  have e : t.pre (row ++ [key]) v = t.pre row v := pre_congr fun u hu => gt_app (by omega)
  have e2 : gt (row ++ [key]) v = key := by rw [← hl, gt_end]
  rw [ok.pre_succ, e, e2]
  by_cases hv : v ∈ t.vars
  · have hk := hall i t ht hv
    rw [lvl_in L pos ht hv, if_pos hv, rkeys_snoc, rend_snoc, h1]
    dsimp only
    rw [hk]
    refine ⟨rfl, ?_⟩
    have := (List.getElem?_eq_some_iff.1 hk).1
    exact decide_eq_false (by omega)
  · have : i ∉ atv sc.ts v := fun hi => by
      obtain ⟨t2, e1, e2⟩ := (atv_iff _ _ _).1 hi
      rw [ht] at e1
      cases e1
      exact hv e2
    rw [lvl_out L pos this, if_neg hv, List.append_nil]
    exact ⟨h1, h2⟩
theorem lvl_upd {ts : List JT} {row : List ByteArray} {v : Nat} (L : Nat → List RLv) (pos : Nat → Nat) {i : Nat} {t : JT} (h : ts[i]? = some t) (hv : v ∈ t.vars) (j : Nat) : updL (lvl ts row v L pos) i (L i ++ [(t.keys row v, j)]) = lvl ts row v L (updN pos i j) := by
  funext k
  by_cases hk : k = i
  · subst hk
    rw [updL_same, lvl_in L _ h hv, updN_same]
  · rw [updL_other _ _ hk]
    unfold lvl
    rw [updN_other pos j hk]
theorem LeapSt.fin {sc : Scn} {J : Taker} {Jx : (Nat → Prop) → World → Prop} {done : List (List ByteArray)} {row : List ByteArray} {v k : Nat} {L : Nat → List RLv} {F : Nat → Prop} {W wr : World} {c mm : Nat} {pos : Nat → Nat} (h : LeapSt sc J done row v k L F W c mm pos wr)
    {c' : Nat} {t : JT} (hc : sc.ts[c']? = some t) (hv : v ∈ t.vars) (he : pos c' = (t.keys row v).length) : LeapPost sc J Jx (done ++ (common sc.ts row v).flatMap fun key => binds sc.ts sc.p k (v + 1) (row ++ [key])) row v L F W (.returned (.bool true)) wr := by
  obtain ⟨h1, h2⟩ := h
  rw [h2.fin hc hv he, List.take_length] at h1
  exact ⟨pos, .inl ⟨rfl, h1⟩⟩
theorem LeapSt.up {sc : Scn} {J : Taker} (hJ : ∀ done, Stable sc (J done)) {done : List (List ByteArray)} {row : List ByteArray} {v k : Nat} {L : Nat → List RLv} {F : Nat → Prop} {W wr wr' : World} {c mm : Nat} {pos : Nat → Nat} (h : LeapSt sc J done row v k L F W c mm pos wr) (e : Ext wr wr') : LeapSt sc J done row v k L F W c mm pos wr' := by
  obtain ⟨⟨F1, h1, h2, h3⟩, h4⟩ := h
  exact ⟨⟨F1, h1.ext (hJ _) e, h2.ext e, h3⟩, h4⟩
set_option maxRecDepth 100000 in
set_option maxHeartbeats 4000000 in
theorem c_leap (sc : Scn) (J : Taker) (Jx : (Nat → Prop) → World → Prop) (ST : Sta sc) (hJ : ∀ done, Stable sc (J done)) (hJx : Stable sc Jx) (v k : Nat) (hk : v + (k + 1) = sc.n) (FR : FromOk sc J Jx (v + 1) k)
    (done : List (List ByteArray)) (row : List ByteArray) (w : World) (L : Nat → List RLv) (F : Nat → Prop) (hrow : row.length = v) (h : WSt sc (J done) w row (lvl sc.ts row v L fun _ => 0) F) (hL : Lvs sc row v L)
    (gl cl m : Nat) (hm : (atv sc.ts v).length = m) (hgl : ∀ (j c : Nat), (atv sc.ts v)[j]? = some c → ∃ pc, sc.pcs[c]? = some pc ∧ w.cell? ⟨gl, j, none⟩ = some (.pointer (some ⟨pc, 0, none⟩))) (hglF : ¬ F gl) :
    Calls Tryz.prog 108 #[.pointer (some ⟨sc.pw, 0, none⟩), .int .i64 (v : Nat), .slice (some ⟨gl, 0, none⟩) m cl] w (LeapPost sc J Jx (done ++ (common sc.ts row v).flatMap fun key => binds sc.ts sc.p k (v + 1) (row ++ [key])) row v L F w) := by
  have HST := Lib.hid ST
  have HJ := Lib.hid hJ
  have HJX := Lib.hid hJx
  have HFR := Lib.hid FR
  have HL := Lib.hid hL
  have HM := Lib.hid hm
  have HGL := Lib.hid hgl
  have HGF := Lib.hid hglF
  have HW := Lib.hid h
  have HROW := Lib.hid hrow
  have HK := Lib.hid hk
  obtain ⟨t0, ht0, hv0⟩ := ST.all v (by omega)
  obtain ⟨i0, hi0⟩ := List.mem_iff_getElem?.1 ht0
  have ha0 := (atv_iff sc.ts v i0).2 ⟨t0, hi0, hv0⟩
  have hmpos : 0 < m := by
    rw [← hm]
    exact List.length_pos_of_mem ha0
  have hmle : m ≤ 1000000000000 := by
    rw [← hm]
    have := atv_len sc.ts v
    have := ST.nn.2
    omega
  clear hJ hJx FR hL hgl hglF h hk ht0 hi0 hv0 ha0 hm hrow
  have HSTART : Hid (∃ (i c mm : Nat) (pos : Nat → Nat), Value.int .i64 0 = .int .i64 (i : Nat) ∧ (atv sc.ts v)[i]? = some c ∧ LeapSt sc J done row v k L F w c mm pos w ∧ ∀ t y, sc.ts[c]? = some t → (t.keys row v)[pos c]? = some y → rankK sc.ts row v y ≤ (sc.ts.flatMap fun t => t.keys row v).length) := by
    obtain ⟨c0, hc0⟩ : ∃ c, (atv sc.ts v)[0]? = some c := ⟨_, List.getElem?_eq_getElem (by rw [HM.out]; exact hmpos)⟩
    refine ⟨0, c0, 0, fun _ => 0, rfl, hc0, ⟨?_, LeapI.start (ST.all v (by have := HK.out; omega)) _⟩, fun t y _ _ => List.length_filter_le _ _⟩
    rw [List.take_zero, List.flatMap_nil, List.append_nil]
    exact HW.out.mv
  clear ST
  go_enter Tryz.func108, Tryz.ntmps108
  go_wp2
  go_step3
  go_wp2
  go_step3
  go_wp2
  go_loopg [7] ((sc.ts.flatMap fun t => t.keys row v).length) (fun g iv wr => ∃ (i c mm : Nat) (pos : Nat → Nat), iv = .int .i64 (i : Nat) ∧ (atv sc.ts v)[i]? = some c ∧ LeapSt sc J done row v k L F w c mm pos wr ∧ ∀ t y, sc.ts[c]? = some t → (t.keys row v)[pos c]? = some y → rankK sc.ts row v y ≤ g)
  case atStart => exact HSTART.out
  case round =>
    clear HSTART
    obtain ⟨i, c, mm, pos, rfl, hc, ⟨⟨F1, hS, hB, hN⟩, hI⟩, hg⟩ := hrel
    obtain ⟨t, ht, hvt⟩ := (atv_iff sc.ts v c).1 (List.mem_of_getElem? hc)
    obtain ⟨pc, hpc, hcell0⟩ := HGL.out i c hc
    have hcell := hB.cell HGF.out hcell0
    have him : i < m := by rw [← HM.out]; exact (List.getElem?_eq_some_iff.1 hc).1
    have AE := Lib.hid (x_atEnd HST.out (HJ.out _) hS ht hpc (lvl_in L pos ht hvt))
    have HI := Lib.hid hI
    have HS := Lib.hid hS
    have HC := Lib.hid hc
    have HG := Lib.hid hg
    have HT := Lib.hid ht
    have HPC := Lib.hid hpc
    have HB := Lib.hid hB
    have HN := Lib.hid hN
    clear hS hB hN hI hc hg ht hpc hcell0
    obtain ⟨b, hb⟩ : ∃ b, decide (pos c = (t.keys row v).length) = b := ⟨_, rfl⟩
    rw [hb] at AE
    have HBB := Lib.hid hb
    clear hb
    cases b with
    | true =>
      go_wp2_with (go_at_call 119; (with_reducible refine AE.out.mono ?_); rintro e w1 ⟨rfl, q1, hw1⟩; obtain rfl := hw1.symm)
      rw [Exit.noGoto_ret]
      go_returns
      exact LeapSt.fin (LeapSt.up HJ.out ⟨Mv.trans HB.out HN.out HS.out.mv, HI.out⟩ (ext_drewN (Below.refl _ _) _)) HT.out hvt (of_decide_eq_true HBB.out)
    | false =>
      have hlt : pos c < (t.keys row v).length := by
        have h1 := HI.out.le c t HT.out hvt
        have h2 := of_decide_eq_false HBB.out
        omega
      obtain ⟨key, hkey⟩ : ∃ key, (t.keys row v)[pos c]? = some key := ⟨_, List.getElem?_eq_getElem hlt⟩
      have KY : Hid (∀ q, Calls Tryz.prog 125 #[.pointer (some ⟨pc, 0, none⟩)] (wr.drewN q) fun e w' => e = .returned (.string key) ∧ ∃ m, w' = (wr.drewN q).drewN m) := fun q => x_key HST.out (HJ.out _) (HS.out.ext (HJ.out _) (ext_drewN (Below.refl _ _) q)) HT.out HPC.out (lvl_in L pos HT.out hvt) hkey
      have HKEY := Lib.hid hkey
      clear hkey hlt
      go_wp2_with (first
        | (go_at_call 119; (with_reducible refine AE.out.mono ?_); rintro e w1 ⟨rfl, q1, hw1⟩; obtain rfl := hw1.symm)
        | (go_at_call 125; (with_reducible refine (KY.out _).mono ?_); rintro e w2 ⟨rfl, q2, hw2⟩; obtain rfl := hw2.symm))
      have HINNER : Hid (∀ W, Ext wr W → LeapSt sc J done row v k L F w c mm pos W ∧ (t.keys row v)[pos c]? = some key ∧ ∀ q', q' < 0 → ∀ c' t', (atv sc.ts v)[(i + q') % m]? = some c' → sc.ts[c']? = some t' → (t'.keys row v)[pos c']? = some key) :=
        fun W hW => ⟨⟨Mv.trans HB.out HN.out (HS.out.mv_ext (HJ.out _) hW), HI.out⟩, HKEY.out, fun q' h => absurd h (by omega)⟩
      refine wp_gen (fun W2 hW2 => ?_)
      have hE2 : Ext wr W2 := by rw [hW2]; exact ext_drewN (Below.refl _ _) _
      have HINNER := Lib.hid (HINNER.out W2 hE2)
      have HKEY0 := Lib.hid HKEY.out
      clear hW2 hE2 AE KY HS HB HN HI HBB hcell HKEY
      go_loopw [7, 24] (fun iv nv w2 => iv = .int .i64 (i : Nat) ∧ ∃ (q : Nat) (pos2 : Nat → Nat), nv = .int .i64 (q : Nat) ∧ q ≤ m ∧ LeapSt sc J done row v k L F w c mm pos2 w2 ∧ (t.keys row v)[pos2 c]? = some key ∧ ∀ q', q' < q → ∀ c' t', (atv sc.ts v)[(i + q') % m]? = some c' → sc.ts[c']? = some t' → (t'.keys row v)[pos2 c']? = some key) (fun _ nv _ => m - (intOf nv).toNat)
      case atStart => exact ⟨rfl, 0, pos, rfl, Nat.zero_le _, HINNER.out⟩
      case round =>
        clear HINNER
        obtain ⟨rfl, q, pos2, rfl, hqm, ⟨⟨F2, hS, hB, hN⟩, hI⟩, hkey, hpast⟩ := hrel
        have HKEY := Lib.hid hkey
        have HP := Lib.hid hpast
        have HI := Lib.hid hI
        have HS := Lib.hid hS
        have HB := Lib.hid hB
        have HN := Lib.hid hN
        clear hS hN hI hkey hpast
        by_cases hq : q < m
        · obtain ⟨j2, hj2⟩ : ∃ j2, (i + q) % m = j2 := ⟨_, rfl⟩
          have hj2m : j2 < m := by rw [← hj2]; exact Nat.mod_lt _ hmpos
          have hsum : IntKind.i64.wrap ((i : Int) + (q : Int)) = (i : Int) + (q : Int) := by rw [IntKind.wrap_i64]; omega
          have hrem : ((i : Int) + (q : Int)) % (m : Int) = (j2 : Int) := by rw [← hj2, Int.natCast_emod, Int.natCast_add]
          have HJ2 := Lib.hid hj2
          have HREM := Lib.hid hrem
          obtain ⟨c2, hc2⟩ : ∃ c2, (atv sc.ts v)[j2]? = some c2 := ⟨_, List.getElem?_eq_getElem (by rw [HM.out]; exact hj2m)⟩
          obtain ⟨t2, ht2, hvt2⟩ := (atv_iff sc.ts v c2).1 (List.mem_of_getElem? hc2)
          obtain ⟨pc2, hpc2, hcell0⟩ := HGL.out _ c2 hc2
          have hcell := hB.cell HGF.out hcell0
          have HC2 := Lib.hid hc2
          have HT2 := Lib.hid ht2
          have HPC2 := Lib.hid hpc2
          have hlt2 : pos2 c2 ≤ (t2.keys row v).length := HI.out.le c2 t2 ht2 hvt2
          clear hB hc2 ht2 hpc2 hcell0 hj2
          by_cases hend : pos2 c2 = (t2.keys row v).length
          · have SK := Lib.hid (x_seek_end HST.out (HJ.out _) HS.out HT2.out HPC2.out (by rw [lvl_in L pos2 HT2.out hvt2, hend]) key)
            have HEND := Lib.hid hend
            clear hlt2 hend
            go_wp2_with (go_at_call 126; (with_reducible refine SK.out.mono ?_); rintro e w3 ⟨rfl, hM3⟩)
            rw [Exit.noGoto_ret]
            go_returns
            exact LeapSt.fin ⟨Mv.trans HB.out HN.out hM3, HI.out⟩ HT2.out hvt2 HEND.out
          · have SK := Lib.hid (x_seek HST.out (HJ.out _) HS.out HT2.out HPC2.out (lvl_in L pos2 HT2.out hvt2) (by omega) key)
            clear hlt2 hend
            go_wp2_with fail
            refine SK.out.mono ?_
            rintro e w3 ⟨j, j1, j2', j3, j4, rfl, hM3⟩
            rw [lvl_upd L pos2 HT2.out hvt2] at hM3
            have HI3 := Lib.hid (HI.out.seek HST.out.jok HT.out hvt HKEY.out HT2.out hvt2 j1 j2' j3).1
            have HL3 : Hid (LeapSt sc J done row v k L F w c mm (updN pos2 c2 j) w3) := ⟨Mv.trans HB.out HN.out hM3, HI3.out⟩
            have HCI : Hid ((t2.keys row v)[pos2 c2]? = some key → j = pos2 c2) := fun he => by
              rcases Nat.eq_or_lt_of_le j1 with e | e
              · exact e.symm
              · exact absurd (j3 _ key (Nat.le_refl _) e he) (lt_irr key)
            obtain ⟨b3, hb3⟩ : ∃ b, decide (j < (t2.keys row v).length) = b := ⟨_, rfl⟩
            rw [hb3]
            have HB3 := Lib.hid hb3
            have HJ4 := Lib.hid j4
            have HJ3 := Lib.hid j2'
            have HM3 := Lib.hid hM3
            clear hb3 hM3 j1 j2' j3 j4
            cases b3 with
            | false =>
              go_wp2
              rw [Exit.noGoto_ret]
              go_returns
              exact HL3.out.fin HT2.out hvt2 (by
                rw [updN_same]
                have := of_decide_eq_false HB3.out
                have := HJ3.out
                omega)
            | true =>
              obtain ⟨y2, hy2⟩ : ∃ y2, (t2.keys row v)[j]? = some y2 := ⟨_, List.getElem?_eq_getElem (of_decide_eq_true HB3.out)⟩
              have HY2 := Lib.hid hy2
              clear hy2
              obtain ⟨F3, hS3, hB3, hN3⟩ := HM3.out
              have HS3 := Lib.hid hS3
              have KY2 := Lib.hid (x_key HST.out (HJ.out _) hS3 HT2.out HPC2.out (lvl_in L (updN pos2 c2 j) HT2.out hvt2) (by rw [updN_same]; exact HY2.out))
              clear hS3 hB3 hN3
              have HPAST : Hid (∀ q', q' < q → ∀ c' t', (atv sc.ts v)[(i + q') % m]? = some c' → sc.ts[c']? = some t' → (t'.keys row v)[updN pos2 c2 j c']? = some key) := fun q' hq' c' t' h1 h2 => by
                by_cases e : c' = c2
                · subst e
                  have e2 := h2
                  rw [HT2.out] at e2
                  cases e2
                  have h3 := HP.out q' hq' _ _ h1 h2
                  rw [updN_same, HCI.out h3]
                  exact h3
                · rw [updN_other pos2 _ e]
                  exact HP.out q' hq' c' t' h1 h2
              have HKC : Hid ((t.keys row v)[updN pos2 c2 j c]? = some key) := by
                show _ = _
                by_cases e : c = c2
                · subst e
                  have e2 := HT2.out
                  rw [HT.out] at e2
                  cases e2
                  rw [updN_same, HCI.out HKEY.out]
                  exact HKEY.out
                · rw [updN_other pos2 _ e]
                  exact HKEY.out
              have hge : ltB y2 key = false := HJ4.out y2 HY2.out
              have HGE := Lib.hid hge
              clear hge
              by_cases hyk : y2 = key
              · have hbe : (y2.toList == key.toList) = true := by rw [beq_bytes, decide_eq_true hyk]
                have HYK := Lib.hid hyk
                clear hyk
                go_wp2_with (go_at_call 125; (with_reducible refine KY2.out.mono ?_); rintro e w4 ⟨rfl, q4, hw4⟩; obtain rfl := hw4.symm)
                go_roundw
                case rel =>
                  refine ⟨rfl, q + 1, updN pos2 c2 j, by simp, by omega, HL3.out.up HJ.out (ext_drewN (Below.refl _ _) _), HKC.out, fun q' hq' c' t' h1 h2 => ?_⟩
                  rcases Nat.lt_or_ge q' q with h3 | h3
                  · exact HPAST.out q' h3 c' t' h1 h2
                  · obtain rfl : q' = q := by omega
                    rw [HJ2.out, HC2.out] at h1
                    cases h1
                    rw [HT2.out] at h2
                    cases h2
                    rw [updN_same, HY2.out, HYK.out]
                case measure => simp [intOf]; omega
              · have hbe : (y2.toList == key.toList) = false := by rw [beq_bytes, decide_eq_false hyk]
                have HLT : Hid (ltB key y2 = true) := by
                  rcases lt_tri key y2 with h | h | h
                  · exact h
                  · exact absurd h.symm hyk
                  · rw [HGE.out] at h
                    cases h
                clear hyk
                have HRK : Hid (rankK sc.ts row v y2 < rankK sc.ts row v key) := rank_lt HT.out HKEY.out HLT.out
                go_wp2_with (go_at_call 125; (with_reducible refine KY2.out.mono ?_); rintro e w4 ⟨rfl, q4, hw4⟩; obtain rfl := hw4.symm)
                go_roundg (gk - 1)
                case measure =>
                  have := HRK.out
                  have := HG.out t key HT.out HKEY0.out
                  omega
                case rel =>
                  refine ⟨j2, c2, mm, updN pos2 c2 j, by rw [HREM.out], HC2.out, ⟨(HL3.out.up HJ.out (ext_drewN (Below.refl _ _) _)).1, ?_⟩, fun t' y h1 h2 => ?_⟩
                  · exact HI3.out.turn HT.out HKC.out HT2.out (by rw [updN_same]; exact HY2.out) HLT.out
                  · rw [HT2.out] at h1
                    cases h1
                    rw [updN_same, HY2.out] at h2
                    cases h2
                    have := HRK.out
                    have := HG.out t key HT.out HKEY0.out
                    omega
        · obtain rfl : q = m := by omega
          have HALL : Hid (∀ c' t', sc.ts[c']? = some t' → v ∈ t'.vars → (t'.keys row v)[pos2 c']? = some key) := fun c' t' h1 h2 => by
            obtain ⟨jj, hjj⟩ := List.mem_iff_getElem?.1 ((atv_iff sc.ts v c').2 ⟨t', h1, h2⟩)
            have hjm : jj < q := by rw [← HM.out]; exact (List.getElem?_eq_some_iff.1 hjj).1
            by_cases hij : i ≤ jj
            · exact HP.out (jj - i) (by omega) c' t' (by rw [show i + (jj - i) = jj by omega, Nat.mod_eq_of_lt hjm]; exact hjj) h1
            · exact HP.out (jj + q - i) (by omega) c' t' (by rw [show i + (jj + q - i) = jj + q by omega, Nat.add_mod_right, Nat.mod_eq_of_lt hjm]; exact hjj) h1
          have HHIT := Lib.hid (HI.out.hit HST.out.jok HT.out hvt HALL.out)
          obtain ⟨ct, hct⟩ : ∃ x, (common sc.ts row v).take mm = x := ⟨_, rfl⟩
          have hvn : v < sc.n := by have := HK.out; omega
          obtain ⟨s0, s2, s3⟩ := HST.out.walk wr HS.out.env
          obtain ⟨hput, hputB, y0, hy0, hf0⟩ := HS.out.put (HJ.out _) (by rw [HROW.out]; exact hvn) key
          rw [HROW.out] at hput hputB hy0 hf0
          have HPUT := Lib.hid hput
          have HPUTB := Lib.hid hputB
          have FRM : Hid (Calls Tryz.prog 89 #[.pointer (some ⟨sc.pw, 0, none⟩), .int .i64 ((v : Int) + 1)] (wr.setCell ⟨sc.gr, v, none⟩ (.string key)) (FromPost sc J Jx (done ++ ((common sc.ts row v).take (mm + 1)).flatMap fun key => binds sc.ts sc.p k (v + 1) (row ++ [key])) (row ++ [key]) (lvl sc.ts row v L pos2) F2 (wr.setCell ⟨sc.gr, v, none⟩ (.string key)))) := by
            have h := HFR.out _ (row ++ [key]) _ _ _ (by rw [List.length_append, HROW.out]; rfl) hput (HL.out.step HST.out HROW.out HALL.out)
            rw [List.append_assoc] at h
            rw [List.take_add_one, HHIT.out, List.flatMap_append]
            exact Lib.hid (by simpa using h)
          have hnn := HST.out.nn.1
          have hv1 : IntKind.i64.wrap ((v : Int) + 1) = ((v + 1 : Nat) : Int) := by rw [IntKind.wrap_i64]; omega
          have hwv : (0 : Int) ≤ (v : Int) := by omega
          have HEXT := Lib.hid hputB
          have hlen : pos2 c < (t.keys row v).length := (List.getElem?_eq_some_iff.1 HKEY.out).1
          clear hput hputB hB hct ct
          go_wp2_with fail
          refine FRM.out.mono ?_
          rintro e w3 (⟨rfl, hM3⟩ | ⟨rfl, hM3⟩)
          · obtain ⟨F3, hS3, hB3, hN3⟩ := Mv.trans HPUTB.out (fun b hb => .inl hb) hM3.cut
            have NX := Lib.hid (x_next HST.out (HJ.out _) hS3 HT.out HPC.out (lvl_in L pos2 HT.out hvt) hlen)
            have HB3 := Lib.hid hB3
            have HN3 := Lib.hid hN3
            have hcell3 : w3.cell? ⟨gl, i, none⟩ = some (.pointer (some ⟨pc, 0, none⟩)) := by
              obtain ⟨pc', h1, h2⟩ := HGL.out i c HC.out
              rw [HPC.out] at h1
              cases h1
              exact (env_step HB.out hB3 HN.out).cell HGF.out h2
            clear hM3 hS3 hB3 hN3
            have HI4 := Lib.hid (HI.out.next HST.out.jok HT.out hvt HKEY.out HHIT.out)
            have HLE := Lib.hid hlen
            clear hlen
            obtain ⟨b3, hb3⟩ : ∃ b, decide (pos2 c + 1 < (t.keys row v).length) = b := ⟨_, rfl⟩
            rw [hb3] at NX
            have HB4 := Lib.hid hb3
            clear hb3
            cases b3 with
            | false =>
              go_wp2_with (go_at_call 127; (with_reducible refine NX.out.mono ?_); rintro e w4 ⟨rfl, hM4⟩)
              rw [Exit.noGoto_ret]
              go_returns
              rw [lvl_upd L pos2 HT.out hvt] at hM4
              exact LeapSt.fin ⟨Mv.trans HB.out HN.out (Mv.trans HB3.out HN3.out hM4), HI4.out⟩ HT.out hvt (by
                rw [updN_same]
                have := of_decide_eq_false HB4.out
                have := HLE.out
                omega)
            | true =>
              go_wp2_with (go_at_call 127; (with_reducible refine NX.out.mono ?_); rintro e w4 ⟨rfl, hM4⟩)
              obtain ⟨y5, hy5⟩ : ∃ y, (t.keys row v)[pos2 c + 1]? = some y := ⟨_, List.getElem?_eq_getElem (of_decide_eq_true HB4.out)⟩
              have hrk : rankK sc.ts row v y5 < rankK sc.ts row v key := rank_lt HT.out HKEY.out (rising_lt ((HST.out.jok t (List.mem_of_getElem? HT.out)).keys_rising row hvt) (Nat.lt_succ_self _) HKEY.out hy5)
              have hgk := HG.out t key HT.out HKEY0.out
              rw [lvl_upd L pos2 HT.out hvt] at hM4
              go_roundg (gk - 1)
              case measure => omega
              case rel =>
                refine ⟨i, c, mm + 1, updN pos2 c (pos2 c + 1), rfl, HC.out, ⟨Mv.trans HB.out HN.out (Mv.trans HB3.out HN3.out hM4), HI4.out⟩, fun t' y h1 h2 => ?_⟩
                rw [HT.out] at h1
                cases h1
                rw [updN_same, hy5] at h2
                cases h2
                omega
          · have HM3 := Lib.hid (Mv.trans HB.out HN.out (Mv.trans HPUTB.out (fun b hb => .inl hb) hM3.cut))
            clear hM3
            go_wp2
            rw [Exit.noGoto_ret]
            go_returns
            exact ⟨pos2, .inr ⟨rfl, HM3.out⟩⟩
end Go.Proofs.YtpgbenijjodoeaaGreat
namespace Go.Proofs.YtpgbenijjodoeaaGreat
open Go.ChangeShapes Go.WideShapes Go.ChangeAt Go.RowKit
theorem info_cur : (Tryz.prog.info? 152).map (fun i => (i.zero, i.size, i.bytes)) = some (some (.pointer none), 1, 8) := by kernel_rfl
abbrev ptrV (b : Nat) : Value := .pointer (some ⟨b, 0, none⟩)
structure Stb (sc : Scn) : Prop where
  gc : 0 < sc.n → ∃ gc cc, ∀ W, ButS sc.T sc.w2 W → W.cell? ⟨sc.pw, 1, none⟩ = some (.slice (some ⟨gc, 0, none⟩) sc.ts.length cc) ∧ ∀ i pc, sc.pcs[i]? = some pc → W.cell? ⟨gc, i, none⟩ = some (.pointer (some ⟨pc, 0, none⟩))
  names : ∃ an cn, ∀ W, ButS sc.T sc.w2 W → W.cell? ⟨sc.pm, 0, none⟩ = some (.slice an sc.n cn)
  at_ : ∃ (ga ca : Nat) (f g : Nat → Nat), ∀ W, ButS sc.T sc.w2 W → W.cell? ⟨sc.pm, 2, none⟩ = some (.slice (some ⟨ga, 0, none⟩) sc.n ca) ∧ ∀ v, v < sc.n → W.cell? ⟨ga, v, none⟩ = some (.slice (some ⟨f v, 0, none⟩) (atv sc.ts v).length (g v)) ∧ ∀ (j c : Nat), (atv sc.ts v)[j]? = some c → W.cell? ⟨f v, j, none⟩ = some (.int .i64 (c : Nat))
  pass : ∀ (v : Nat) (W : World) (x : List ByteArray), v ≤ sc.n → ButS sc.T sc.w2 W → x.length = sc.n → RowAt sc W x → Calls Tryz.prog 106 #[.pointer (some ⟨sc.pw, 0, none⟩), .int .i64 (v : Nat)] W fun e w' => e = .returned (.bool (sc.p v (x.take v))) ∧ Ext W w'
section
variable {sc : Scn} {J : (Nat → Prop) → World → Prop} {W : World} {row : List ByteArray} {L : Nat → List RLv} {F : Nat → Prop}
theorem WSt.rowx (h : WSt sc J W row L F) : ∃ x, x.length = sc.n ∧ x.take row.length = row ∧ RowAt sc W x := by
  obtain ⟨x, S, C, ⟨h1, h2, h3⟩, _⟩ := h.ex
  exact ⟨x, h1, h2, h3⟩
theorem WSt.but (hJ : Stable sc J) (h : WSt sc J W row L F) {W' : World} {T : Nat → Prop} (e : ButS T W W') (hT : ∀ b, T b → ¬ F b ∧ sc.far b) : WSt sc J W' row L F := by
  obtain ⟨x, S, C, h1, h2, h3, h4, h5, h6, h7⟩ := h.ex
  refine ⟨env_step h.env e (fun b hb => (hT b hb).2), h.far, fun b hb => Nat.lt_of_lt_of_le (h.low b hb) e.size, x, S, C, ⟨h1.1, h1.2.1, h1.2.2.but e (fun hb => (hT _ hb).1 ((h7 _).2 (.inl rfl)))⟩, fun i t pc pt a1 a2 a3 => (h2 i t pc pt a1 a2 a3).buts e (fun b hb hb2 => (hT b hb2).1 ((h7 b).2 (.inr (.inr ⟨i, hb⟩)))), h3, h4, h5, hJ _ _ _ _ h6 e (fun b hb => ⟨fun hC => (hT b hb).1 ((h7 b).2 (.inr (.inl hC))), (hT b hb).2⟩), h7⟩
end
/-- The levels when the first q of the cursors at v are open. -/
def opn (ts : List JT) (row : List ByteArray) (v : Nat) (L : Nat → List RLv) (q i : Nat) : List RLv := if i ∈ (atv ts v).take q then lvl ts row v L (fun _ => 0) i else L i
/-- The levels when the first q are closed again. -/
def cls (ts : List JT) (v : Nat) (L L' : Nat → List RLv) (q i : Nat) : List RLv := if i ∈ (atv ts v).take q then L i else L' i
theorem atv_nodup (ts : List JT) (v : Nat) : (atv ts v).Nodup := List.nodup_range.sublist List.filter_sublist
theorem not_take {l : List Nat} (hn : l.Nodup) {q c : Nat} (hc : l[q]? = some c) : c ∉ l.take q := by
  intro hm
  obtain ⟨j, hj⟩ := List.mem_iff_getElem?.1 hm
  rw [List.getElem?_take] at hj
  split at hj
  · rename_i hlt
    obtain ⟨h1, e1⟩ := List.getElem?_eq_some_iff.1 hj
    obtain ⟨h2, e2⟩ := List.getElem?_eq_some_iff.1 hc
    have := (List.getElem_inj (h₀ := h1) (h₁ := h2) hn).1 (e1.trans e2.symm)
    omega
  · cases hj
theorem opn_zero (ts : List JT) (row : List ByteArray) (v : Nat) (L : Nat → List RLv) : opn ts row v L 0 = L := by
  funext i
  simp [opn]
theorem opn_succ {ts : List JT} (row : List ByteArray) {v : Nat} (L : Nat → List RLv) {q c : Nat} {t : JT} (hc : (atv ts v)[q]? = some c) (ht : ts[c]? = some t) (hv : v ∈ t.vars) : opn ts row v L q c = L c ∧ updL (opn ts row v L q) c (L c ++ [(t.keys row v, 0)]) = opn ts row v L (q + 1) := by
  have hnt := not_take (atv_nodup ts v) hc
  refine ⟨by unfold opn; rw [if_neg hnt], ?_⟩
  funext i
  by_cases hi : i = c
  · subst hi
    rw [updL_same]
    unfold opn
    rw [List.take_add_one, hc, if_pos (by simp), lvl_in L _ ht hv]
  · rw [updL_other _ _ hi]
    unfold opn
    rw [List.take_add_one, hc]
    have : i ∈ (atv ts v).take q ++ (some c).toList ↔ i ∈ (atv ts v).take q := by simp [hi]
    by_cases hm : i ∈ (atv ts v).take q
    · rw [if_pos hm, if_pos (this.2 hm)]
    · rw [if_neg hm, if_neg (fun h => hm (this.1 h))]
theorem opn_all (ts : List JT) (row : List ByteArray) (v : Nat) (L : Nat → List RLv) : opn ts row v L (atv ts v).length = lvl ts row v L fun _ => 0 := by
  funext i
  unfold opn
  rw [List.take_length]
  by_cases hm : i ∈ atv ts v
  · rw [if_pos hm]
  · rw [if_neg hm, lvl_out L _ hm]
theorem cls_zero (ts : List JT) (v : Nat) (L L' : Nat → List RLv) : cls ts v L L' 0 = L' := by
  funext i
  simp [cls]
theorem cls_succ {ts : List JT} (row : List ByteArray) {v : Nat} (L : Nat → List RLv) (pos : Nat → Nat) {q c : Nat} (hc : (atv ts v)[q]? = some c) : updL (cls ts v L (lvl ts row v L pos) q) c (cls ts v L (lvl ts row v L pos) q c).dropLast = cls ts v L (lvl ts row v L pos) (q + 1) := by
  have hnt := not_take (atv_nodup ts v) hc
  obtain ⟨t, ht, hv⟩ := (atv_iff ts v c).1 (List.mem_of_getElem? hc)
  funext i
  by_cases hi : i = c
  · subst hi
    rw [updL_same]
    unfold cls
    rw [if_neg hnt, List.take_add_one, hc, if_pos (by simp), lvl_in L _ ht hv, List.dropLast_concat]
  · rw [updL_other _ _ hi]
    unfold cls
    rw [List.take_add_one, hc]
    have : i ∈ (atv ts v).take q ++ (some c).toList ↔ i ∈ (atv ts v).take q := by simp [hi]
    by_cases hm : i ∈ (atv ts v).take q
    · rw [if_pos hm, if_pos (this.2 hm)]
    · rw [if_neg hm, if_neg (fun h => hm (this.1 h))]
theorem cls_all (ts : List JT) (row : List ByteArray) (v : Nat) (L : Nat → List RLv) (pos : Nat → Nat) : cls ts v L (lvl ts row v L pos) (atv ts v).length = L := by
  funext i
  unfold cls
  rw [List.take_length]
  by_cases hm : i ∈ atv ts v
  · rw [if_pos hm]
  · rw [if_neg hm, lvl_out L _ hm]
def FromSt (sc : Scn) (J : (Nat → Prop) → World → Prop) (W : World) (row : List ByteArray) (v : Nat) (L : Nat → List RLv) (F : Nat → Prop) (ps : List Nat) (q : Nat) (l : Value) (wr : World) : Prop :=
  ∃ F1, WSt sc J wr row (opn sc.ts row v L q) F1 ∧ ButS F W wr ∧ (∀ b, F1 b → F b ∨ W.heap.size ≤ b) ∧ wr.ownsRow W.heap.size 152 1 l q ((ps.take q).map ptrV) ∧ ∀ b, l.ownBlock = some b → ¬ F1 b
set_option maxRecDepth 100000 in
set_option maxHeartbeats 4000000 in
theorem c_from_step (sc : Scn) (J : Taker) (Jx : (Nat → Prop) → World → Prop) (ST : Sta sc) (SB : Stb sc) (hJ : ∀ done, Stable sc (J done)) (hJx : Stable sc Jx) (v k : Nat) (hk : v + (k + 1) = sc.n) (FR : FromOk sc J Jx (v + 1) k) : FromOk sc J Jx v (k + 1) := by
  intro done row w L F hrow h hL
  obtain ⟨x, x1, x2, x3⟩ := h.rowx
  have PS := SB.pass v w x (by omega) h.env x1 x3
  rw [hrow] at x2
  rw [x2] at PS
  have HPS := Lib.hid PS
  have HST := Lib.hid ST
  have HSB := Lib.hid SB
  have HJ := Lib.hid hJ
  have HJX := Lib.hid hJx
  have HFR := Lib.hid FR
  have HL := Lib.hid hL
  have HW := Lib.hid h
  have HROW := Lib.hid hrow
  have HK := Lib.hid hk
  obtain ⟨b, hb⟩ : ∃ b, sc.p v row = b := ⟨_, rfl⟩
  rw [hb] at HPS
  have HB := Lib.hid hb
  clear PS ST SB hJ hJx FR hL h hrow hk x1 x2 x3 hb
  cases b with
  | false =>
    go_enter Tryz.func89, Tryz.ntmps89
    go_wp2_with (go_at_call 106; (with_reducible refine HPS.out.mono ?_); rintro e w1 ⟨rfl, e1⟩)
    go_returns
    refine .inl ⟨rfl, ?_⟩
    rw [binds, if_neg (by rw [HB.out]; simp), List.append_nil]
    exact HW.out.mv_ext (HJ.out _) e1
  | true =>
    go_enter Tryz.func89, Tryz.ntmps89
    go_wp2_with fail
    refine HPS.out.mono ?_
    rintro e w1 ⟨rfl, e1⟩
    have hS1 := HW.out.ext (HJ.out _) e1
    have HS1 := Lib.hid hS1
    have HE1 := Lib.hid e1
    obtain ⟨s0, s2, s3⟩ := HST.out.walk w1 hS1.env
    obtain ⟨gc, cc, hgc⟩ := HSB.out.gc (by have := HK.out; omega)
    obtain ⟨an, cn, hnm⟩ := HSB.out.names
    obtain ⟨ga, ca, fa, fc, hat⟩ := HSB.out.at_
    have hn0 := hnm w1 hS1.env
    obtain ⟨hp2, hat1⟩ := hat w1 hS1.env
    obtain ⟨hga, _⟩ := hat1 v (by have := HK.out; omega)
    have HAT := Lib.hid hat
    have HGC := Lib.hid hgc
    have hvn : ((v : Int) == (sc.n : Int)) = false := by
      have := HK.out
      rw [beq_eq_false_iff_ne]
      omega
    have hvn2 : v < sc.n := by have := HK.out; omega
    obtain ⟨m, hm⟩ : ∃ m, (atv sc.ts v).length = m := ⟨_, rfl⟩
    rw [hm] at hga
    have hmle : m ≤ 1000000000000 := by
      have := atv_len sc.ts v
      have := HST.out.nn.2
      omega
    have hnts : sc.ts.length ≤ 1000000000000 := HST.out.nn.2
    have HM := Lib.hid hm
    obtain ⟨ps, hps⟩ : ∃ ps, (atv sc.ts v).map (fun c => sc.pcs[c]?.getD 0) = ps := ⟨_, rfl⟩
    have HPSL := Lib.hid hps
    have HSTART : Hid (FromSt sc (J done) w1 row v L F ps 0 (.slice none 0 0) w1) := ⟨F, by rw [opn_zero]; exact hS1, ButS.refl _ _, fun _ h => .inl h, World.ownsRow_nil _ _ _ _, fun b e => by cases e⟩
    obtain ⟨i0, hi, hz0, hz1, hz2⟩ := info_parts info_cur
    clear hS1 hgc hnm hat hat1 e1 hm hps
    go_wp2
    go_loopw [5, 47] (fun l iv wr => ∃ q : Nat, iv = .int .i64 (q : Nat) ∧ q ≤ m ∧ FromSt sc (J done) w1 row v L F ps q l wr) (fun _ iv _ => m - (intOf iv).toNat)
    case atStart => exact ⟨0, rfl, Nat.zero_le _, HSTART.out⟩
    case round =>
      clear HSTART s0 s2 s3 hn0 hp2 hga
      obtain ⟨q, rfl, hqm, F1, hS, hB, hN, hown, hob⟩ := hrel
      have HS := Lib.hid hS
      have HBB := Lib.hid hB
      have HN := Lib.hid hN
      have HO := Lib.hid hown
      have HOB := Lib.hid hob
      by_cases hq : q < m
      · obtain ⟨c, hc⟩ : ∃ c, (atv sc.ts v)[q]? = some c := ⟨_, List.getElem?_eq_getElem (by rw [HM.out]; exact hq)⟩
        obtain ⟨t, ht, hvt⟩ := (atv_iff sc.ts v c).1 (List.mem_of_getElem? hc)
        obtain ⟨pc, pt, hpc, hpt⟩ := HST.out.of ht
        obtain ⟨_, hat1⟩ := HAT.out wr hS.env
        have hint := (hat1 v hvn2).2 q c hc
        obtain ⟨g1, g2⟩ := HGC.out wr hS.env
        have hcell := g2 c pc hpc
        have hct : c < sc.ts.length := (List.getElem?_eq_some_iff.1 ht).1
        obtain ⟨o1, o2⟩ := opn_succ row L hc ht hvt
        obtain ⟨k1, k2⟩ := HL.out.2 c t ht
        have OP := Lib.hid (x_open HST.out (HJ.out _) hS ht hpc hvt (by rw [o1]; exact k1) (by rw [o1]; exact k2))
        have HC := Lib.hid hc
        have HT := Lib.hid ht
        have HPC := Lib.hid hpc
        have HO2 := Lib.hid o2
        have HO1 := Lib.hid o1
        clear hS hB hN hown hob hc ht hpc hpt hat1 g2 o1 o2 k1 k2
        go_wp2_with fail
        refine OP.out.mono ?_
        rintro e w4 ⟨⟨b4, rfl⟩, hM4⟩
        rw [HO1.out, HO2.out] at hM4
        obtain ⟨F4, hS4, hB4, hN4⟩ := hM4
        obtain ⟨h1, h2⟩ := HGC.out w4 hS4.env
        have hcell4 := h2 c pc HPC.out
        have OW4 : Hid (w4.ownsRow w1.heap.size 152 1 u5 q ((ps.take q).map ptrV)) := hB4.own HO.out HOB.out
        have hz4 : w1.heap.size ≤ (w4.alloc (.cells #[.pointer (some ⟨pc, 0, none⟩)] 152)).heap.size := size_alloc_le (Nat.le_trans HBB.out.size hB4.size)
        have HS4 := Lib.hid hS4
        have HB4 := Lib.hid hB4
        have HN4 := Lib.hid hN4
        have HZ4 := Lib.hid hz4
        clear hS4 hB4 hN4 h2 hcell hint g1 hz4
        go_wp2_with (at_builtin; go_loud (refine wpList_append_lies _ rfl _ _ 148 rfl w1.heap.size 152 i0 (.pointer none) 1 8 Tryz.underlying148 hi hz0 hz1 hz2 rfl (by decide) _ q ((ps.take q).map ptrV) rfl (OW4.out.alloc _) ⟨w4.heap.size, 0, none⟩ 1 1 [.pointer (some ⟨pc, 0, none⟩)] rfl rfl (news1 _ _ _) (fun x hx => by cases List.mem_singleton.1 hx; rfl) (Nat.zero_lt_one) (by unfold maxLen; omega) (by omega) HZ4.out _ rfl ?_); intro g7 p7 w7 own7 q7 hat7 hlt7)
        have hnew : ∀ b, (Value.slice (some ⟨g7, 0, none⟩) (q + 1) p7).ownBlock = some b → ¬ F4 b ∧ w1.heap.size ≤ b := fun b e => by
          cases e
          rcases hat7 with h | h
          · refine ⟨fun hF => ?_, ?_⟩
            · rcases HN4.out g7 hF with h3 | h3
              · exact HOB.out g7 h h3
              · have := (HO.out.lt g7 h).2
                omega
            · exact (HO.out.lt g7 h).1
          · refine ⟨fun hF => ?_, ?_⟩
            · have := HS4.out.low g7 hF
              simp at h
              omega
            · have := HBB.out.size
              have := HB4.out.size
              simp at h
              show w1.heap.size ≤ g7
              omega
        go_roundw
        case rel =>
          have hTb : ∀ b, u5.ownBlock = some b → w1.heap.size ≤ b ∧ b < wr.heap.size := fun b e => HO.out.lt b e
          have hT : ButS (fun b => u5.ownBlock = some b) w4 w7 := ((ButS.refl _ w4).alloc _).grown q7 (fun b e => .inl e)
          refine ⟨q + 1, by simp, by omega, F4, HS4.out.but (HJ.out _) hT (fun b hb => ⟨fun hF => ?_, .inr (Nat.le_trans HS1.out.env.size (hTb b hb).1)⟩), env_step (env_step HBB.out HB4.out HN.out) hT (fun b hb => .inr (hTb b hb).1), fun b hb => ?_, ?_, fun b e => (hnew b e).1⟩
          · rcases HN4.out b hF with h3 | h3
            · exact HOB.out b hb h3
            · have := (hTb b hb).2
              omega
          · rcases HN4.out b hb with h3 | h3
            · exact HN.out b h3
            · exact .inr (Nat.le_trans HBB.out.size h3)
          · have hpq : ps[q]? = some pc := by
              rw [← HPSL.out, List.getElem?_map, HC.out]
              show some (sc.pcs[c]?.getD 0) = some pc
              rw [HPC.out]
              rfl
            rw [List.take_add_one, hpq, List.map_append]
            exact own7
        case measure => simp [intOf]; omega
      · obtain rfl : q = m := by omega
        have hmpos : 0 < q := by
          obtain ⟨t0, ht0, hv0⟩ := HST.out.all v hvn2
          obtain ⟨i0, hi0⟩ := List.mem_iff_getElem?.1 ht0
          rw [← HM.out]
          exact List.length_pos_of_mem ((atv_iff sc.ts v i0).2 ⟨t0, hi0, hv0⟩)
        obtain ⟨gl, cl, rfl, hcl⟩ := own_formS HO.out hmpos
        have hcells : ∀ (j c : Nat), (atv sc.ts v)[j]? = some c → ∃ pc, sc.pcs[c]? = some pc ∧ wr.cell? ⟨gl, j, none⟩ = some (.pointer (some ⟨pc, 0, none⟩)) := fun j c hc => by
          obtain ⟨t, ht, hvt⟩ := (atv_iff sc.ts v c).1 (List.mem_of_getElem? hc)
          obtain ⟨pc, pt, hpc, _⟩ := HST.out.of ht
          have hjq : j < q := by rw [← HM.out]; exact (List.getElem?_eq_some_iff.1 hc).1
          have hpq : ps[j]? = some pc := by
            rw [← HPSL.out, List.getElem?_map, hc]
            show some (sc.pcs[c]?.getD 0) = some pc
            rw [hpc]
            rfl
          have := HO.out.cells (g := gl) rfl j (ptrV pc) (by rw [List.getElem?_map, List.getElem?_take, if_pos hjq, hpq]; rfl)
          rw [Addr.add_lit, Nat.zero_add] at this
          exact ⟨pc, hpc, this⟩
        have hglF : ¬ F1 gl := HOB.out gl rfl
        have LP : Hid (Calls Tryz.prog 108 #[.pointer (some ⟨sc.pw, 0, none⟩), .int .i64 (v : Nat), .slice (some ⟨gl, 0, none⟩) q cl] wr (LeapPost sc J Jx (done ++ (common sc.ts row v).flatMap fun key => binds sc.ts sc.p k (v + 1) (row ++ [key])) row v L F1 wr)) :=
          c_leap sc J Jx HST.out HJ.out HJX.out v k HK.out HFR.out done row wr L F1 HROW.out (by rw [← opn_all, HM.out]; exact HS.out) HL.out gl cl q HM.out hcells hglF
        have HCELLS := Lib.hid hcells
        have HGLF := Lib.hid hglF
        clear hS hB hN hown hob hcells hglF
        go_wp2_with fail
        refine LP.out.mono ?_
        rintro e w4 hp4
        have hp5 : ∃ (b : Bool) (J' : (Nat → Prop) → World → Prop) (pos : Nat → Nat), e = .returned (.bool b) ∧ Stable sc J' ∧ Mv sc J' wr row (lvl sc.ts row v L pos) F1 w4 ∧ ∀ w', Mv sc J' w row L F w' → FromPost sc J Jx (done ++ binds sc.ts sc.p (k + 1) v row) row L F w (.returned (.bool b)) w' := by
          have hbd : binds sc.ts sc.p (k + 1) v row = (common sc.ts row v).flatMap fun key => binds sc.ts sc.p k (v + 1) (row ++ [key]) := by
            rw [binds, if_pos HB.out]
          rw [hbd]
          obtain ⟨pos, ⟨rfl, hM⟩ | ⟨rfl, hM⟩⟩ := hp4
          · exact ⟨true, _, pos, rfl, HJ.out _, hM, fun w' h => .inl ⟨rfl, h⟩⟩
          · exact ⟨false, _, pos, rfl, HJX.out, hM, fun w' h => .inr ⟨rfl, h⟩⟩
        clear hp4 LP
        obtain ⟨b4, J4, pos, rfl, hJ4, hM4, hfin⟩ := hp5
        have HJ4 := Lib.hid hJ4
        have HFIN := Lib.hid hfin
        have HM4 : Hid (∃ F2, WSt sc J4 w4 row (cls sc.ts v L (lvl sc.ts row v L pos) 0) F2 ∧ ButS F1 wr w4 ∧ ∀ b, F2 b → F1 b ∨ wr.heap.size ≤ b) := by
          rw [cls_zero]
          exact hM4
        clear hJ4 hfin hM4
        go_wp2
        go_loopw [76] (fun iv wq => ∃ j : Nat, iv = .int .i64 (j : Nat) ∧ j ≤ q ∧ ∃ F2, WSt sc J4 wq row (cls sc.ts v L (lvl sc.ts row v L pos) j) F2 ∧ ButS F1 wr wq ∧ ∀ b, F2 b → F1 b ∨ wr.heap.size ≤ b) (fun iv _ => q - (intOf iv).toNat)
        case atStart => exact ⟨0, rfl, Nat.zero_le _, HM4.out⟩
        case round =>
          clear HM4
          obtain ⟨j, rfl, hjq, F2, hS2, hB2, hN2⟩ := hrel
          by_cases hj : j < q
          · obtain ⟨c, hc⟩ : ∃ c, (atv sc.ts v)[j]? = some c := ⟨_, List.getElem?_eq_getElem (by rw [HM.out]; exact hj)⟩
            obtain ⟨t, ht, hvt⟩ := (atv_iff sc.ts v c).1 (List.mem_of_getElem? hc)
            obtain ⟨pc, hpc, hcell0⟩ := HCELLS.out j c hc
            have hcell := hB2.cell HGLF.out hcell0
            have UP := Lib.hid (x_up HST.out HJ4.out hS2 ht hpc)
            have HB2 := Lib.hid hB2
            have HN2 := Lib.hid hN2
            have HC := Lib.hid hc
            clear hS2 hB2 hN2 hcell0 hc ht hpc
            go_wp2_with (go_at_call 109; (with_reducible refine UP.out.mono ?_); rintro e w5 ⟨⟨b5, rfl⟩, hM5⟩)
            go_roundw
            case rel =>
              rw [cls_succ row L pos HC.out] at hM5
              exact ⟨j + 1, by simp, by omega, Mv.trans HB2.out HN2.out hM5⟩
            case measure => simp [intOf]; omega
          · obtain rfl : j = q := by omega
            rw [← HM.out, cls_all] at hS2
            have HS2 := Lib.hid hS2
            have HB2 := Lib.hid hB2
            have HN2 := Lib.hid hN2
            clear hS2 hB2 hN2
            go_wp2
            go_returns
            refine HFIN.out _ (Mv.trans ((ButS.refl _ _).ext HE1.out) (fun _ h => .inl h) (Mv.trans HBB.out HN.out ⟨F2, HS2.out, HB2.out, HN2.out⟩))
end Go.Proofs.YtpgbenijjodoeaaGreat
