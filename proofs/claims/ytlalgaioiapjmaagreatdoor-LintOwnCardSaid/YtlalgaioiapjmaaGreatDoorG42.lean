/- The walk of lint.Live. -/
import Derived.Test.YtlalgaioiapjmaaGreatDoorG28
import Derived.Test.YtlalgaioiapjmaaGreatDoorG40
namespace Go.Proofs.YtlalgaioiapjmaaGreatDoor
open Go.ChangeShapes Go.WideShapes Go.ChangeAt Go.RowKit
open K (Rule SMap stm)
theorem c_ofS (rs : List Rule) (a : Option Addr) (n cap : Nat) (w : World) (h : RulesAt w a n rs) : Calls Tryz.prog 14 #[.agg #[.slice a n cap]] w (OfPost rs w) := by
  by_cases h0 : K.checkP rs = 0
  · exact c_of_ok rs a n cap w h h0
  · exact c_of_no rs a n cap w h h0
theorem strata_check {rs : List Rule} (h : strataE rs = 0) : K.checkP rs = 0 := by
  unfold strataE at h
  by_cases h0 : K.checkP rs = 0
  · exact h0
  · rw [if_pos h0] at h
    exact absurd h h0
/-- The predicates that can have facts. -/
noncomputable def liveL (rs : List Rule) (given : List ByteArray) : List ByteArray := (namesQ rs).filter fun p => decide (p ∈ liveV rs given)
def LiveOut (rs : List Rule) (given : List ByteArray) (w : World) (e : Ending) (w' : World) : Prop :=
  ∃ v, e = .returned (.tuple #[v, .int .i64 (strataE rs)]) ∧ Ext w w' ∧ w'.ownsRow w.heap.size 9 1 v (if strataE rs = 0 then (liveL rs given).length else 0) (if strataE rs = 0 then (liveL rs given).map Value.string else [])
set_option maxRecDepth 100000 in
set_option maxHeartbeats 4000000 in
theorem c_LiveF (rs : List Rule) (given : List ByteArray) (a : Option Addr) (n c : Nat) (ga : Option Addr) (gn gc : Nat) (w : World) (h : RulesAt w a n rs) (hg : K.StrsAt w ga gn given) :
    Calls Tryz.prog 8 #[.agg #[.slice a n c], .slice ga gn gc] w (LiveOut rs given w) := by
  have CO : Hid (∀ W, Ext w W → Calls Tryz.prog 14 #[.agg #[.slice a n c]] W (OfPost rs W)) := fun W e => c_ofS rs a n c W (h.keep e)
  have CL : Hid (∀ W, Ext w W → Calls Tryz.prog 23 #[.agg #[.slice a n c], .slice ga gn gc] W (LivePost rs given W)) := fun W e => c_live rs given a n c ga gn gc W (h.keep e) (hg.keep e)
  obtain ⟨er, her⟩ : ∃ er, strataE rs = er := ⟨_, rfl⟩
  have HER := Lib.hid her
  unfold OfPost at CO
  rw [her] at CO
  clear h hg her
  go_enter Tryz.func8, Tryz.ntmps8
  go_upto_region 1 with (fail)
  refine wp_gen (fun W1 hW => ?_)
  have E1 : Ext w W1 := by rw [hW]; exact ext_alloc (Below.refl _ _) _
  have p0 : W1.cell? ⟨w.heap.size, 0, none⟩ = some (.slice a n c) := by rw [hW]; go_simp
  have COW := Lib.hid (CO.out W1 E1)
  have HE1 := Lib.hid E1
  obtain ⟨pb, hpb⟩ : ∃ pb, w.heap.size = pb := ⟨_, rfl⟩
  rw [hpb] at p0 ⊢
  clear hW E1 CO hpb
  go_upto_region 2 with (go_at_call 14; (with_reducible refine COW.out.mono ?_); rintro e w2 ⟨an, nn, cn, la, ln, lc, qa, qn, qc, rfl, E2, hs⟩; have p0 := keep E2 p0; have HS := Lib.hid hs; have HE2 := Lib.hid (ext_trans HE1.out E2); clear E2 hs)
  refine wp_gen (fun W3 hW => ?_)
  have E3 : Ext w2 W3 := by rw [hW]; exact ext_alloc (Below.refl _ _) _
  have s0 : W3.cell? ⟨w2.heap.size, 0, none⟩ = some (.slice an nn cn) := by rw [hW]; go_simp
  have p0 := keep E3 p0
  have HE3 := Lib.hid (ext_trans HE2.out E3)
  have HE23 := Lib.hid E3
  obtain ⟨sb, hsb⟩ : ∃ sb, w2.heap.size = sb := ⟨_, rfl⟩
  rw [hsb] at s0 ⊢
  obtain ⟨b, hb⟩ : ∃ b, (er != 0) = b := ⟨_, rfl⟩
  have CLW := Lib.hid (CL.out W3 HE3.out)
  clear hW E3 hsb COW CL
  cases b with
  | true =>
    have hne : ¬ er = 0 := by simpa using hb
    have FIN : Hid (∀ w', Ext w w' → LiveOut rs given w (.returned (.tuple #[.slice none 0 0, .int .i64 er])) w') := fun w' e => by
      refine ⟨_, by rw [HER.out], e, ?_⟩
      rw [HER.out, if_neg hne, if_neg hne]
      exact World.ownsRow_nil _ _ _ _
    clear hne
    go_wp2
    go_returns
    exact FIN.out _ HE3.out
  | false =>
    have he0 : er = 0 := by simpa using hb
    have H0 : Hid (strataE rs = 0) := by show _ = _; rw [HER.out, he0]
    have HSA := Lib.hid ((HS.out he0).keep HE23.out)
    clear HS
    subst he0
    go_upto_region 5 with (go_at_call 23; (with_reducible refine CLW.out.mono ?_); unfold LivePost; rintro e w4 ⟨km, rfl, hkm, sm, E4⟩; have s0 := keep E4 s0; have SM := Lib.hid sm; have HE4 := Lib.hid (ext_trans HE3.out E4); have SA := Lib.hid (HSA.out.keep E4); clear sm hkm E4)
    obtain ⟨f, hf⟩ : ∃ f : ByteArray → Bool, (fun p => decide (p ∈ liveV rs given)) = f := ⟨_, rfl⟩
    have HF := Lib.hid hf
    have HNL := Lib.hid SA.out.2.1
    have hnn := SA.out.1
    clear hf CLW HSA
    go_wp2
    go_loopw [26, 9] (fun iv ov wr => ∃ i : Nat, i ≤ nn ∧ iv = .int .i64 (i : Int) ∧ ∃ oa oc, ov = .slice oa ((namesQ rs).take i |>.filter f).length oc ∧ wr.ownsRow w4.heap.size 9 1 (.slice oa ((namesQ rs).take i |>.filter f).length oc) ((namesQ rs).take i |>.filter f).length (((namesQ rs).take i |>.filter f).map Value.string) ∧ Ext w4 wr) (fun iv _ _ => nn - (intOf iv).toNat)
    case atStart => exact ⟨0, Nat.zero_le _, rfl, none, 0, rfl, World.ownsRow_nil _ _ _ _, Below.refl _ _⟩
    case round =>
      obtain ⟨i, hi, rfl, oa, oc, rfl, own, hE⟩ := hrel
      have OW := Lib.hid own
      have HEW := Lib.hid hE
      by_cases hlt : i < nn
      · have hii : (i : Int) < (nn : Int) := by omega
        obtain ⟨x, tb, to_, hx, rfl, hc⟩ := (SA.out.keep hE).at hlt
        have lk := K.run_look (P := Tryz.prog) (t := 70) (SM.out.ext hE) Tryz.underlying70 Tryz.underlying9 (K.zero_bool _) x false
        simp only [K.stm_get, Bool.false_eq_true, if_false] at lk
        obtain ⟨q, hq⟩ : ∃ q, decide (x ∈ liveV rs given) = q := ⟨_, rfl⟩
        rw [hq] at lk
        have hfx : f x = q := by rw [← HF.out]; exact hq
        obtain ⟨L, hL⟩ : ∃ L, ((namesQ rs).take i).filter f = L := ⟨_, rfl⟩
        have TK : Hid (((namesQ rs).take (i + 1)).filter f = L ++ (if q = true then [x] else [])) := by
          show _ = _
          rw [take_at hx, List.filter_append, hL]
          congr 1
          cases q <;> simp [hfx]
        have hll : L.length ≤ 2000000 := by
          have h1 : L.length ≤ ((namesQ rs).take i).length := by rw [← hL]; exact List.length_filter_le _ _
          rw [List.length_take] at h1
          have h2 := names_few (strata_check H0.out)
          rw [← namesQ_len] at h2
          omega
        rw [hL] at OW ⊢
        have hbs : w4.heap.size ≤ wr.heap.size := hE.size
        have HLT := Lib.hid hlt
        clear own hE hx hq hfx hL
        cases q with
        | false =>
          go_wp2
          go_roundw
          case rel =>
            refine ⟨i + 1, HLT.out, by go_num, oa, oc, ?_⟩
            rw [TK.out]
            simpa using ⟨OW.out, HEW.out⟩
          case measure => have := HLT.out; simp [intOf]; omega
        | true =>
          obtain ⟨ll, hll2⟩ : ∃ ll, L.length = ll := ⟨_, rfl⟩
          have HLL := Lib.hid hll2
          rw [hll2] at OW hll ⊢
          clear hll2
          go_wp2_with (at_builtin; refine wpList_push_str wr x w4.heap.size oa ll oc _ OW.out hll hbs rfl _ _ rfl rfl rfl ?_; intro g6 c6 w6 p1 p2 p3; have P6 := Lib.hid p1; have E6 : Hid (Ext w4 w6) := ext_ownB (ext_alloc HEW.out _) p2 (fun b hb => (OW.out.lt b hb).1); clear p1 p2 p3)
          go_roundw
          case rel =>
            refine ⟨i + 1, HLT.out, by go_num, some ⟨g6, 0, none⟩, c6, ?_⟩
            rw [TK.out]
            have e : (L ++ (if True then [x] else [])).length = ll + 1 := by simp [HLL.out]
            simpa [HLL.out] using ⟨P6.out, E6.out⟩
          case measure => have := HLT.out; simp [intOf]; omega
      · have hii : ¬ (i : Int) < (nn : Int) := by omega
        have FIN : Hid (LiveOut rs given w (.returned (.tuple #[.slice oa (((namesQ rs).take i).filter f).length oc, .int .i64 0])) wr) := by
          refine ⟨_, by rw [H0.out], ext_trans HE4.out HEW.out, ?_⟩
          rw [H0.out, if_pos rfl, if_pos rfl]
          have e1 : ((namesQ rs).take i).filter f = liveL rs given := by
            rw [List.take_of_length_le (by have := HNL.out; omega), ← HF.out]
            rfl
          have o9 := OW.out
          rw [e1] at o9
          rw [e1]
          exact own_base o9 HE4.out.size
        clear own hE
        go_wp2
        go_returns
        exact FIN.out
end Go.Proofs.YtlalgaioiapjmaaGreatDoor
