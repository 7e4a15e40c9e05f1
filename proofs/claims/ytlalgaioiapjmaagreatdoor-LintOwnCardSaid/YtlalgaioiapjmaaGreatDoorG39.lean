/- The walk of strata.Of. -/
import Derived.Test.YtlalgaioiapjmaaGreatDoorG22
import Derived.Test.YtlalgaioiapjmaaGreatDoorG38
import Derived.StillTailTactics
import Derived.Deep.LoopGhost
import Derived.Deep.CutBlock
namespace Go.Proofs.YtlalgaioiapjmaaGreatDoor
open Go.ChangeShapes Go.WideShapes Go.ChangeAt Go.RowKit
open K (AL Rule checkP foundW roundW partOf)
/-- What strata.Of's error is. -/
def strataE (rs : List Rule) : Int := if checkP rs ≠ 0 then checkP rs else if roundW (foundW (namesQ rs).length (edgesQ rs)) (edgesQ rs) = true then 120 else 0
def OfPost (rs : List Rule) (w : World) (e : Ending) (w' : World) : Prop := ∃ (an : Option Addr) (n cn : Nat) (la : Option Addr) (ln lc : Nat) (ra : Option Addr) (rn rc : Nat), e = .returned (.tuple #[.agg #[.slice an n cn, .slice la ln lc, .slice ra rn rc], .int .i64 (strataE rs)]) ∧ Ext w w' ∧ (strataE rs = 0 → K.StrsAt w' an n (namesQ rs))
theorem res_of {fn : Func} {t u : Tmp} {tmps : Array Value} {w : World} {b : Nat} {x y z e : Value} (hf : fn.results = #[.cell t 55, .tmp u]) (ht : tmps.getD t undef = .pointer (some ⟨b, 0, none⟩)) (hu : tmps.getD u undef = e) (h : Blk w b 55 [x, y, z]) : (results fn tmps).run Tryz.prog w = .ok (.tuple #[.agg #[x, y, z], e]) w := by
  have h0 := h.cell (i := 0) rfl
  have h1 := h.cell (i := 1) rfl
  have h2 := h.cell (i := 2) rfl
  have ht' : tmps[t]?.getD undef = .pointer (some ⟨b, 0, none⟩) := by rw [← ht]; simp
  have hu' : tmps[u]?.getD undef = e := by rw [← hu]; simp
  simp only [results, hf]
  go_simp
theorem strs_but {W W' : World} {a : Option Addr} {n : Nat} {ss : List ByteArray} {S : Nat → Prop} (h : K.StrsAt W a n ss) (b : ButS S W W') (hs : ∀ b off s, W.cell? ⟨b, off, none⟩ = some (.string s) → ¬ S b) : K.StrsAt W' a n ss :=
  ⟨h.1, h.2.1, fun i s hi => by
    obtain ⟨g, off, h1, h2⟩ := h.2.2 i s hi
    exact ⟨g, off, h1, b.cell (hs _ _ _ h2) h2⟩⟩
theorem strs_ne {W : World} {b : Nat} {t : TypeId} {cs : List Value} (h : Blk W b t cs) (hc : ∀ x ∈ cs, ∀ s, x ≠ .string s) {g off : Nat} {s : ByteArray} (hs : W.cell? ⟨g, off, none⟩ = some (.string s)) : g ≠ b := by
  rintro rfl
  unfold Blk at h
  simp only [World.cell?, h] at hs
  have hs : cs[off]? = some (.string s) := by simpa using hs
  exact hc _ (List.mem_of_getElem? hs) s rfl
theorem edgesOk (rs : List Rule) (h : checkP rs = 0) : EdgesOk (namesQ rs).length (edgesQ rs) := fun e he => by
  obtain ⟨h1, h2, h3, h4, h5, h6⟩ := (edgesQ_ok h).2 e he
  exact ⟨h1, h2, h3, h4, h5, by omega⟩
set_option maxRecDepth 100000 in
set_option maxHeartbeats 4000000 in
theorem c_of_no (rs : List Rule) (a : Option Addr) (n cap : Nat) (w : World) (h : RulesAt w a n rs) (h0 : checkP rs ≠ 0) :
    Calls Tryz.prog 14 #[.agg #[.slice a n cap]] w (OfPost rs w) := by
  have CW : Hid (∀ W, Ext w W → Calls Tryz.prog 26 #[.agg #[.slice a n cap]] W fun e w' => e = .returned (.tuple #[.pointer none, .int .i64 (checkP rs)]) ∧ Ext W w') := fun W e => c_weave_no rs a n cap W (h.keep e) h0
  have HS : Hid (strataE rs = checkP rs) := by
    show _ = _
    unfold strataE
    rw [if_pos h0]
  have HN : Hid (strataE rs ≠ 0) := by rw [HS.out]; exact h0
  obtain ⟨er, her⟩ : ∃ er, checkP rs = er := ⟨_, rfl⟩
  rw [her] at CW h0 HS
  have e0 : (er != 0) = true := by simpa using h0
  clear h her h0
  go_enter Tryz.func14, Tryz.ntmps14
  go_upto_region 1 with (fail)
  refine wp_gen (fun W hW => ?_)
  have E0 : Ext w W := by rw [hW]; exact ext_alloc (ext_alloc (Below.refl _ _) _) _
  have B0 : Blk W (w.heap.size + 1) 55 [.slice none 0 0, .slice none 0 0, .slice none 0 0] := by
    rw [hW]
    have := Blk.new (w.alloc (.cells #[.slice a n cap] 24)) [.slice none 0 0, .slice none 0 0, .slice none 0 0] 55
    rw [World.size_alloc] at this
    exact this
  have d0 : W.cell? ⟨w.heap.size, 0, none⟩ = some (.slice a n cap) := by rw [hW]; go_simp
  have CWW := Lib.hid (CW.out W E0)
  have HB := Lib.hid B0
  have HE := Lib.hid E0
  clear hW CW B0 E0
  go_upto_region 2 with (go_at_call 26; (with_reducible refine CWW.out.mono ?_); rintro e w2 ⟨rfl, E2⟩; have B2 := HB.out.ext E2; have f2 := B2.free; have x0 := B2.cell (i := 0) rfl; have x1 := B2.cell (i := 1) rfl; have x2 := B2.cell (i := 2) rfl; have HB2 := Lib.hid B2; clear B2)
  go_wp2
  have B3 := ((HB2.out.set 0 (.slice none 0 0)).set 1 (.slice none 0 0)).set 2 (.slice none 0 0)
  refine bodyPost_ret (res_of rfl rfl rfl B3) rfl ?_
  refine ⟨none, 0, 0, _, _, _, _, _, _, by rw [HS.out]; rfl, ?_, fun h => absurd h HN.out⟩
  exact ext_set (ext_set (ext_set (ext_trans HE.out E2) (Nat.le_succ _) _) (Nat.le_succ _) _) (Nat.le_succ _) _
theorem depths_few (rs : List Rule) (h : checkP rs = 0) : ∀ x ∈ depthsV (namesQ rs).length (edgesQ rs), x ≤ 100000000000 := fun x hx => by
  have hn : (namesQ rs).length ≤ 65536 := by rw [namesQ_len]; have := names_few h; omega
  have hm : (edgesQ rs).length ≤ 1048576 := by have := (edgesQ_ok h).1; omega
  obtain ⟨_, h2⟩ := found_facts (edgesOk rs h) hn hm
  unfold depthsV at hx
  obtain ⟨v, _, rfl⟩ := List.mem_map.1 hx
  have h3 := depth_bound (M := 1) (s := foundW (namesQ rs).length (edgesQ rs)) (es := edgesQ rs) (fun e he => by have := ((edgesQ_ok h).2 e he).2.2.2.2; omega) (foundW (namesQ rs).length (edgesQ rs)).all (partOf (foundW (namesQ rs).length (edgesQ rs)) (Int.ofNat v))
  omega
set_option maxRecDepth 100000 in
set_option maxHeartbeats 4000000 in
theorem c_of_ok (rs : List Rule) (a : Option Addr) (n cap : Nat) (w : World) (h : RulesAt w a n rs) (h0 : checkP rs = 0) :
    Calls Tryz.prog 14 #[.agg #[.slice a n cap]] w (OfPost rs w) := by
  have CW : Hid (∀ W, Ext w W → Calls Tryz.prog 26 #[.agg #[.slice a n cap]] W (WeavePost rs W)) := fun W e => c_weave rs a n cap W (h.keep e) h0
  obtain ⟨ns, hns⟩ : ∃ ns, namesQ rs = ns := ⟨_, rfl⟩
  have hnf : ns.length ≤ 512 := by rw [← hns, namesQ_len]; exact names_few h0
  have DP : Hid (∀ W ae ne ce, EdgesAt W ae ne (edgesQ rs) → Calls Tryz.prog 27 #[.int .i64 (ns.length : Int), .slice ae ne ce] W (DepPost (edgesQ rs) ns.length W)) := fun W ae ne ce he => by
    rw [← hns] at hnf ⊢
    exact c_depths (edgesQ rs) ae ne ce (namesQ rs).length W he (by omega) (edgesOk rs h0)
  have HR := Lib.hid h
  have hn := h.1
  obtain rfl : rs.length = n := h.2.1
  have CHK := Lib.hid h0
  have HNS := Lib.hid hns
  clear h h0 hns
  go_enter Tryz.func14, Tryz.ntmps14
  go_upto_region 1 with (fail)
  refine wp_gen (fun W hW => ?_)
  have E0 : Ext w W := by rw [hW]; exact ext_alloc (ext_alloc (Below.refl _ _) _) _
  have B0 : Blk W (w.heap.size + 1) 55 [.slice none 0 0, .slice none 0 0, .slice none 0 0] := by
    rw [hW]
    have := Blk.new (w.alloc (.cells #[.slice a rs.length cap] 24)) [.slice none 0 0, .slice none 0 0, .slice none 0 0] 55
    rw [World.size_alloc] at this
    exact this
  have d0 : W.cell? ⟨w.heap.size, 0, none⟩ = some (.slice a rs.length cap) := by rw [hW]; go_simp
  have CWW := Lib.hid (CW.out W E0)
  have HB := Lib.hid B0
  have HE := Lib.hid E0
  clear hW CW B0 E0
  go_upto_region 4 with (go_at_call 26; (with_reducible refine CWW.out.mono ?_); rintro e w2 ⟨wb, rfl, hwb, E2⟩; have d2 := keep E2 d0; have HWB := Lib.hid hwb; have B2 := Lib.hid (HB.out.ext E2); clear hwb)
  obtain ⟨an, nn, cn, mi, ae, ne, ce, N', hB, hS, hM, hP, hG⟩ := HWB.out.ex
  have hnl : ns.length = nn := by rw [← HNS.out]; exact hS.2.1
  have q0 : w2.drew.cell? ⟨wb, 0, none⟩ = some (.slice an nn cn) := hB.cell (i := 0) rfl
  have q2 : w2.drew.cell? ⟨wb, 2, none⟩ = some (.slice ae ne ce) := hB.cell (i := 2) rfl
  have DPW := Lib.hid (DP.out w2.drew ae ne ce (hG.keep (ext_drew (Below.refl _ _))))
  rw [hnl] at DPW hnf
  have mixed : Tryz.prog.follows .mixedOrders = true := by kernel_rfl
  obtain ⟨rd, hrd⟩ : ∃ rd, roundW (foundW ns.length (edgesQ rs)) (edgesQ rs) = rd := ⟨_, rfl⟩
  have SE : Hid (strataE rs = if rd = true then 120 else 0) := by
    show _ = _
    unfold strataE
    rw [if_neg (by rw [CHK.out]; simp), HNS.out, hrd]
  unfold DepPost at DPW
  rw [← hnl, hrd, hnl] at DPW
  have HSN := Lib.hid hS
  clear hrd hB hS hM hP hG CWW DP
  cases rd with
  | true =>
    have DQ : Hid (Calls Tryz.prog 27 #[.int .i64 (nn : Int), .slice ae ne ce] w2.drew fun e w' => e = .returned (.tuple #[.slice none 0 0, .int .i64 100]) ∧ Ext w2.drew w') := DPW.out.mono (fun e w' h => by
      rcases h with h | h
      · exact h.2
      · cases h.1)
    clear DPW
    go_region_held3 (fun w' => w'.cell? ⟨wb, 0, none⟩ = some (.slice an nn cn) ∧ w'.cell? ⟨wb, 2, none⟩ = some (.slice ae ne ce)) (first | (with_reducible exact And.intro q0 q2) | (with_reducible exact And.intro k0 k2) | fail) (first | (go_at_call 27; (with_reducible refine DQ.out.mono ?_); rintro e w3 ⟨rfl, E3⟩; have k0 := keep E3 q0; have k2 := keep E3 q2) | fail)
    have B3 := B2.out.ext (ext_trans (ext_drew (Below.refl _ _)) E3)
    have f3 := B3.free
    have x0 := B3.cell (i := 0) rfl
    have x1 := B3.cell (i := 1) rfl
    have x2 := B3.cell (i := 2) rfl
    have HB3 := Lib.hid B3
    clear B3
    go_wp2
    have B4 := ((HB3.out.set 0 (.slice none 0 0)).set 1 (.slice none 0 0)).set 2 (.slice none 0 0)
    refine bodyPost_ret (res_of rfl rfl rfl B4) rfl ?_
    refine ⟨none, 0, 0, _, _, _, _, _, _, by rw [SE.out]; rfl, ?_, fun h => by rw [SE.out] at h; simp at h⟩
    exact ext_set (ext_set (ext_set (ext_trans HE.out (ext_trans E2 (ext_trans (ext_drew (Below.refl _ _)) E3))) (Nat.le_succ _) _) (Nat.le_succ _) _) (Nat.le_succ _) _
  | false =>
    have DQ : Hid (Calls Tryz.prog 27 #[.int .i64 (nn : Int), .slice ae ne ce] w2.drew fun e w' => ∃ g, e = .returned (.tuple #[.slice (some ⟨g, 0, none⟩) nn nn, .int .i64 0]) ∧ Blk w' g 3 ((depthsV nn (edgesQ rs)).map numV) ∧ Ext w2.drew w') := DPW.out.mono (fun e w' h => by
      rcases h with h | h
      · cases h.1
      · obtain ⟨_, g, h1, _, h2, h3⟩ := h
        exact ⟨g, h1, h2, h3⟩)
    have DF : Hid (∀ x ∈ depthsV nn (edgesQ rs), x ≤ 100000000000) := by
      have := depths_few rs CHK.out
      rw [HNS.out, hnl] at this
      exact this
    clear DPW
    go_region_held3 (fun w' => w'.cell? ⟨wb, 0, none⟩ = some (.slice an nn cn) ∧ w'.cell? ⟨wb, 2, none⟩ = some (.slice ae ne ce)) (first | (with_reducible exact And.intro q0 q2) | (with_reducible exact And.intro k0 k2) | fail) (first | (go_at_call 27; (with_reducible refine DQ.out.mono ?_); rintro e w3 ⟨lg, rfl, LB, E3⟩; have k0 := keep E3 q0; have k2 := keep E3 q2) | fail)
    have E23 : Ext w2 w3 := ext_trans (ext_drew (Below.refl _ _)) E3
    have HWB3 := Lib.hid (HWB.out.ext E23)
    have HSN3 : Hid (K.StrsAt w3 an nn ns) := by
      have := HSN.out.keep E23
      rwa [HNS.out] at this
    have B3 := Lib.hid (B2.out.ext E23)
    have d3 := keep E23 d2
    have HE3 : Hid (Ext w w3) := ext_trans HE.out (ext_trans E2 E23)
    have HLB := Lib.hid LB
    clear E23 E3 LB k2 q0 q2 DQ d0 d2 HB B2 E2 HWB HE
    go_upto_region 8 with (fail)
    refine wp_gen (fun W3 hW3 => ?_)
    have E3 : Ext w3 W3 := by rw [hW3]; exact ext_alloc (Below.refl _ _) _
    have OS0 : OfS w3 w3.heap.size (.slice an nn cn) (.slice (some ⟨lg, 0, none⟩) nn nn) 0 none 0 0 [] W3 := by
      refine ⟨?_, LLs.start _ _ _, by omega, E3, Nat.le_refl _⟩
      rw [hW3]
      exact Blk.new w3 [.slice an nn cn, .slice (some ⟨lg, 0, none⟩) nn nn, .slice none 0 0] 55
    obtain ⟨ob, hob⟩ : ∃ ob, w3.heap.size = ob := ⟨_, rfl⟩
    have OS := Lib.hid OS0
    have HOB := Lib.hid hob
    rw [hob] at OS ⊢
    have d3 := keep E3 d3
    clear hW3 E3 OS0 k0 hob
    go_wp2
    go_loopw [45] (fun v wr => ∃ i : Nat, i ≤ rs.length ∧ v = .int .i64 (i : Int) ∧ ∃ ra rn rc vs, OfS w3 ob (.slice an nn cn) (.slice (some ⟨lg, 0, none⟩) nn nn) i ra rn rc vs wr) (fun v _ => rs.length - (intOf v).toNat)
    case atStart => exact ⟨0, Nat.zero_le _, rfl, _, _, _, _, OS.out⟩
    case round =>
      obtain ⟨i, hi, rfl, ra, rn, rc, vs, st⟩ := hrel
      have ST := Lib.hid st
      by_cases hil : ¬ i < rs.length
      · have hii : ¬ (i : Int) < (rs.length : Int) := by omega
        have x0 := st.blk.cell (i := 0) rfl
        have x1 := st.blk.cell (i := 1) rfl
        have x2 := st.blk.cell (i := 2) rfl
        have B4 := B3.out.ext st.ext
        have f4 := B4.free
        have y0 := B4.cell (i := 0) rfl
        have y1 := B4.cell (i := 1) rfl
        have y2 := B4.cell (i := 2) rfl
        have FE : Hid (Ext w wr) := ext_trans HE3.out st.ext
        have FS : Hid (K.StrsAt wr an nn ns) := by
          exact HSN3.out.keep st.ext
        have HB4 := Lib.hid B4
        clear st ST B4
        go_wp2
        have B5 := ((HB4.out.set 0 (.slice an nn cn)).set 1 (.slice (some ⟨lg, 0, none⟩) nn nn)).set 2 (.slice ra rn rc)
        refine bodyPost_ret (res_of rfl rfl rfl B5) rfl ?_
        refine ⟨an, nn, cn, _, _, _, _, _, _, by rw [SE.out]; rfl, ?_, fun _ => ?_⟩
        · exact ext_set (ext_set (ext_set FE.out (Nat.le_succ _) _) (Nat.le_succ _) _) (Nat.le_succ _) _
        · rw [HNS.out]
          have b9 : ∀ v0 v1 v2 : Value, ButS (fun x => x = w.heap.size + 1) wr (((wr.setCell ⟨w.heap.size + 1, 0, none⟩ v0).setCell ⟨w.heap.size + 1, 1, none⟩ v1).setCell ⟨w.heap.size + 1, 2, none⟩ v2) := fun v0 v1 v2 => (((ButS.refl (fun x => x = w.heap.size + 1) wr).set (.inl rfl) _ _).set (.inl rfl) _ _).set (.inl rfl) _ _
          exact strs_but FS.out (b9 _ _ _) (fun b off t hc q => strs_ne HB4.out (fun x hx t => by simp at hx; rcases hx with rfl | rfl | rfl <;> simp) hc q)
      · have hil : i < rs.length := by omega
        have hii : (i : Int) < (rs.length : Int) := by omega
        obtain ⟨r, eb, eo, hx, hxa, ah, nh, ch, ab, nb, cb, c0, c1, c2, hr⟩ := HR.out.2.at hil
        subst hxa
        have hE := ext_trans HE3.out st.ext
        have c0 := keep hE c0
        have c1 := keep hE c1
        have c2 := keep hE c2
        obtain ⟨_, _, _, mi2, _, _, _, N2, hB2, _, hM2, hP2, _⟩ := HWB3.out.ex
        have hmem : r.head.pred ∈ ns := by rw [← HNS.out]; exact (namesQ_mem rs _).2 ⟨r, List.mem_of_getElem? hx, .inl rfl⟩
        have hidx : ns.idxOf r.head.pred < nn := by rw [← hnl]; exact List.idxOf_lt_length_of_mem hmem
        go_upto_region 11 with (fail)
        refine wp_gen (fun W4 hW4 => ?_)
        have E4 : Ext wr W4 := by rw [hW4]; exact ext_alloc (Below.refl _ _) _
        have E34 : Ext w3 W4.drew := ext_drew (ext_trans st.ext E4)
        have q1 : W4.cell? ⟨wb, 1, none⟩ = some (.map (some mi2)) := keep (ext_trans st.ext E4) (hB2.cell (i := 1) rfl)
        have c4 : W4.cell? ⟨wr.heap.size, 0, none⟩ = some (.string r.head.pred) := by rw [hW4]; go_simp
        have lk := (show AMap W4.drew mi2 N2 from hM2.ext E34).get Tryz.underlying79 r.head.pred hr.pred false
        rw [hP2, HNS.out, posM, if_pos hmem] at lk
        obtain ⟨ix, hix⟩ : ∃ ix, ns.idxOf r.head.pred = ix := ⟨_, rfl⟩
        rw [hix] at lk hidx
        have lk : (Instr.lookup 79 (.map (some mi2)) (.string r.head.pred) false).run Tryz.prog W4.drew = .ok (.int .i64 (ix : Nat)) W4.drew := lk
        have hdl : (depthsV nn (edgesQ rs)).length = nn := by simp [depthsV]
        obtain ⟨dv, hdv⟩ : ∃ dv, (depthsV nn (edgesQ rs))[ix]? = some dv := ⟨_, List.getElem?_eq_getElem (by omega)⟩
        have hd5 : dv ≤ 100000000000 := DF.out dv (List.mem_of_getElem? hdv)
        have l4 : W4.cell? ⟨lg, ix, none⟩ = some (.int .i64 (dv : Nat)) := keep (ext_trans st.ext E4) (HLB.out.cell (by rw [List.getElem?_map, hdv]; rfl))
        have hidi : (ix : Int) < (nn : Int) := by omega
        have ST4 := Lib.hid (st.up (ext_drew E4))
        clear hW4 E34 hdl hdv hmem hidx hB2 hM2 hP2 hix hx hr hE c0 c1 c2 E4 st
        go_still_tail 11, (by kernel_rfl)
        change wpList _ _ _ _ _ W4.drew
        go_upto_block 2 with (fail)
        go_cut [] (fun wc => ∃ ra rn rc vs, OfS w3 ob (.slice an nn cn) (.slice (some ⟨lg, 0, none⟩) nn nn) i ra rn rc vs wc ∧ dv < rn)
        case first =>
          go_wp2
          go_loopg [61] (dv + 1 - rn) (fun gg _ wj => ∃ ra rn rc vs, OfS w3 ob (.slice an nn cn) (.slice (some ⟨lg, 0, none⟩) nn nn) i ra rn rc vs wj ∧ gg = dv + 1 - rn)
          case atStart => exact ⟨_, _, _, _, ST4.out, rfl⟩
          case round =>
            obtain ⟨r2, m2, k2, v2, st2, hgk⟩ := hrel
            have x2 := st2.blk.cell (i := 2) rfl
            have hlo : w3.heap.size ≤ wr.heap.size := st2.ext.size
            by_cases hmd : m2 ≤ dv
            · have hmi : (m2 : Int) ≤ (dv : Int) := by omega
              have hm1 : m2 ≤ 1000000000000 := by omega
              have OW := Lib.hid st2.rows.own
              have MO : Hid (∀ g c w6, w6.ownsRow w3.heap.size 52 1 (.slice (some ⟨g, 0, none⟩) (m2 + 1) c) (m2 + 1) (v2 ++ [.slice none 0 0]) → (wr.alloc (.cells #[.slice none 0 0] 52)).grownBy w6 (Value.slice r2 m2 k2).ownBlock → w6.cell? ⟨ob, 2, none⟩ = some (.slice r2 m2 k2) ∧ w6.frozen? ⟨ob, 2, none⟩ = false ∧ OfS w3 ob (.slice an nn cn) (.slice (some ⟨lg, 0, none⟩) nn nn) i (some ⟨g, 0, none⟩) (m2 + 1) c (v2 ++ [.slice none 0 0]) (w6.setCell ⟨ob, 2, none⟩ (.slice (some ⟨g, 0, none⟩) (m2 + 1) c))) := fun g c w6 h1 h2 => st2.more (by omega) h1 h2
              have hlt : Hid (dv + 1 - (m2 + 1) < gk) := by show _ < _; omega
              clear st2 hgk
              go_wp2_with (at_builtin; refine wpList_push_nil wr w3.heap.size r2 m2 k2 v2 OW.out hm1 hlo rfl _ _ rfl rfl rfl ?_; intro g6 c6 w6 p1 p2 p3; obtain ⟨u0, u1, V2⟩ := MO.out g6 c6 w6 p1 p2; have V2h := Lib.hid V2; clear p1 p2 p3 V2)
              go_roundg (dv + 1 - (m2 + 1))
              case measure => exact hlt.out
              case rel => exact ⟨_, _, _, _, V2h.out, rfl⟩
            · have hmi : ¬ (m2 : Int) ≤ (dv : Int) := by omega
              have S2 := Lib.hid st2
              clear st2 hgk
              go_wp2
              go_meet
              exact ⟨_, _, _, _, S2.out, by omega⟩
        obtain ⟨ra2, rn2, rc2, vs2, sc, hdr⟩ := hcut
        have hvl : vs2.length = rn2 := by have := sc.rows.own.1; omega
        obtain ⟨v, hv⟩ : ∃ v, vs2[dv]? = some v := ⟨_, List.getElem?_eq_getElem (by omega)⟩
        obtain ⟨m, l, hm, hown⟩ := sc.rows.each dv v hv
        obtain ⟨fa, fc, hvv, hfc⟩ := own_form hown
        subst hvv
        obtain ⟨ga, hga, xk⟩ := sc.rows.place hv
        subst hga
        have x2 := sc.blk.cell (i := 2) rfl
        have x2o := fun o => keep (ext_alloc (Below.refl _ wc) o) x2
        have xko := fun o => keep (ext_alloc (Below.refl _ wc) o) xk
        have hvi : (dv : Int) < (rn2 : Int) := by omega
        have ED : Ext wc wc.drew := ext_drew (Below.refl _ _)
        have OW := Lib.hid (up_ext hown ED)
        have hal : m ≤ 2000000 := by have := (checkP_go CHK.out).1; omega
        have hbs : w3.heap.size ≤ wc.drew.heap.size := sc.ext.size
        have PU : Hid (∀ g c w6, w6.ownsRow w3.heap.size 3 1 (.slice (some ⟨g, 0, none⟩) (m + 1) c) (m + 1) (l.map intV ++ [intV (i : Int)]) → (wc.drew.alloc (.cells #[.int .i64 (i : Int)] 3)).grownBy w6 (Value.slice fa m fc).ownBlock → ((Value.slice fa m fc).ownBlock = some g ∨ wc.drew.heap.size ≤ g) →
            w6.cell? ⟨ga, dv, none⟩ = some (.slice fa m fc) ∧ w6.frozen? ⟨ga, dv, none⟩ = false ∧ w6.cell? ⟨ob, 2, none⟩ = some (.slice (some ⟨ga, 0, none⟩) rn2 rc2) ∧ OfS w3 ob (.slice an nn cn) (.slice (some ⟨lg, 0, none⟩) nn nn) (i + 1) (some ⟨ga, 0, none⟩) rn2 rc2 (vs2.set dv (.slice (some ⟨g, 0, none⟩) (m + 1) c)) (w6.setCell ⟨ga, dv, none⟩ (.slice (some ⟨g, 0, none⟩) (m + 1) c))) := fun g c w6 h1 h2 h3 => by
          obtain ⟨ga', e1, e2, e3, e4, e5⟩ := (sc.up ED).push hv hm (up_ext hown ED) h1 h2 h3
          cases e1
          exact ⟨e2, e3, e4, e5⟩
        have hrs := Lib.hid hil
        clear sc hdr hvl hv hown hfc ED lk l4 q1 c4 hd5 hidi hm
        go_upto_region 14 with (fail)
        go_region_law (first
          | (refine step_push_int wc.drew (i : Int) w3.heap.size fa m fc l OW.out hal hbs (by rfl) _ _ (by rfl) (by rfl) (by rfl) ?_; intro g6 c6 w6 p1 p2 p4; obtain ⟨u0, u1, u2, V2⟩ := PU.out g6 c6 w6 p1 p2 (p4.imp id (fun e => by rw [e]; simp)); have V2h := Lib.hid V2; clear p1 p2 p4 V2)
          | fail)
        all_goals
          go_wp2
          go_roundw
          case rel => exact ⟨i + 1, by have := hrs.out; omega, by go_num, _, _, _, _, V2h.out⟩
          case measure => simp [intOf]; omega
end Go.Proofs.YtlalgaioiapjmaaGreatDoor
