/- The walk of lint.Lint. -/
import Derived.Test.YtlalgaioiapjmaaGreatDoorG41
import Derived.Test.YtlalgaioiapjmaaGreatDoorG42
import Derived.Test.YtlalgaioiapjmaaGreatDoorG43
import Derived.Laws.EntriesVeiled
namespace Go.Proofs.YtlalgaioiapjmaaGreatDoor
open Go.ChangeShapes Go.WideShapes Go.ChangeAt Go.RowKit
open K (Rule SMap stm Finding RuleV)
theorem check_all {rs : List Rule} (h : K.checkP rs = 0) : rs.length ≤ 1024 ∧ ∀ r ∈ rs, K.mayRule r = 0 := by
  obtain ⟨h1, h2⟩ := checkP_go h
  obtain ⟨_, _, _, h3⟩ := chk_names rs [] h2 (by simp)
  exact ⟨h1, fun r hr => (h3 r hr).1⟩
/-- What Lint answers. -/
def LintOut (rs : List Rule) (given wanted : List ByteArray) (w : World) (e : Ending) (w' : World) : Prop :=
  ∃ a c F, e = .returned (.tuple #[.slice a F.length c, .int .i64 (strataE rs)]) ∧ Ext w w' ∧ w'.ownsRow w.heap.size 37 4 (.slice a F.length c) F.length (flatF F) ∧ (if strataE rs = 0 then F.Perm (lintF rs given wanted) ∧ RisF F else F = [])
theorem blk_src {w : World} {b : Nat} {t : TypeId} {cs : List Value} (h : Blk w b t cs) : ∀ ad, some (⟨b, 0, none⟩ : Addr) = some ad → ∀ j u, cs[j]? = some u → w.cell? (ad.add j) = some u := fun ad e j u hu => by
  cases e
  rw [Addr.add_lit, Nat.zero_add]
  exact h.cell hu
theorem c_catLk (bb b1 b2 pb vb kb qb : Nat) (W : World) (h1 : W.cell? ⟨bb, 0, none⟩ = some (.slice (some ⟨b1, 0, none⟩) 5 5)) (h2 : W.cell? ⟨bb, 1, none⟩ = some (.slice (some ⟨b2, 0, none⟩) 4 4)) (B1 : Blk W b1 62 bodiesV) (B2 : Blk W b2 62 (othersV pb vb kb qb)) :
    Calls Tryz.prog 15 #[.slice (some ⟨bb, 0, none⟩) 2 2] W fun e w' => ∃ a' c', e = .returned (.slice a' 9 c') ∧ w'.ownsRow W.heap.size 62 2 (.slice a' 9 c') 9 (bodiesV ++ othersV pb vb kb qb) ∧ Ext W w' :=
  c_ConcatLk bodiesV (othersV pb vb kb qb) bb _ 5 5 _ 4 4 W h1 h2 rfl rfl (fun u hu => by simp [bodiesV] at hu; rcases hu with rfl | rfl | rfl | rfl | rfl | rfl | rfl | rfl | rfl | rfl <;> rfl) (fun u hu => by simp [othersV] at hu; rcases hu with rfl | rfl | rfl | rfl | rfl | rfl | rfl | rfl <;> rfl) (by decide) (by intro h; cases h) (by intro h; cases h) (blk_src B1) (blk_src B2)
set_option maxRecDepth 100000 in
set_option maxHeartbeats 4000000 in
theorem c_Lint (rs : List Rule) (given wanted : List ByteArray) (a : Option Addr) (n c : Nat) (ga : Option Addr) (gn gc : Nat) (wa : Option Addr) (wn wc : Nat) (w : World) (h : RulesAt w a n rs) (hcap : n ≤ c) (hg : K.StrsAt w ga gn given) (hw : K.StrsAt w wa wn wanted) (hws : ∀ s ∈ wanted, okS s) (hT : TabOk w) :
    Calls Tryz.prog 7 #[.agg #[.slice a n c], .slice ga gn gc, .slice wa wn wc] w (LintOut rs given wanted w) := by
  have CO : Hid (∀ W, Ext w W → Calls Tryz.prog 14 #[.agg #[.slice a n c]] W (OfPost rs W)) := fun W e => c_ofS rs a n c W (h.keep e)
  have COT : Hid (strataE rs = 0 → ∀ W, Ext w W → Calls Tryz.prog 17 #[.agg #[.slice a n c], .slice ga gn gc, .slice wa wn wc] W (OthersPost rs given wanted a n c wa wn wc W)) := fun h0 W e => c_others rs given wanted a n c ga gn gc wa wn wc W (h.keep e) (strata_check h0) (hg.keep e) (hw.keep e) hws
  have H := Lib.hid h
  have HT := Lib.hid hT
  have HL := Lib.hid h.2.1
  have HWL := Lib.hid hw.2.1
  have hn := h.1
  obtain ⟨er, her⟩ : ∃ er, strataE rs = er := ⟨_, rfl⟩
  have HER := Lib.hid her
  unfold OfPost at CO
  rw [her] at CO
  clear h hg hw hws hT her
  go_enter Tryz.func7, Tryz.ntmps7
  go_upto_region 1 with (fail)
  refine wp_gen (fun W1 hW => ?_)
  have E1 : Ext w W1 := by rw [hW]; exact ext_alloc (Below.refl _ _) _
  have p0 : W1.cell? ⟨w.heap.size, 0, none⟩ = some (.slice a n c) := by rw [hW]; go_simp
  have COW := Lib.hid (CO.out W1 E1)
  have HE1 := Lib.hid E1
  obtain ⟨pb, hpb⟩ : ∃ pb, w.heap.size = pb := ⟨_, rfl⟩
  rw [hpb] at p0 ⊢
  have HPB := Lib.hid hpb
  clear hW E1 CO hpb
  go_upto_region 2 with (go_at_call 14; (with_reducible refine COW.out.mono ?_); rintro e w2 ⟨an, nn, cn, la, ln, lc, qa, qn, qc, rfl, E2, hs⟩; have p0 := keep E2 p0; have HE2 := Lib.hid (ext_trans HE1.out E2); clear E2 hs)
  refine wp_gen (fun W3 hW => ?_)
  have E3 : Ext w2 W3 := by rw [hW]; exact ext_alloc (Below.refl _ _) _
  have p0 := keep E3 p0
  have HE3 := Lib.hid (ext_trans HE2.out E3)
  obtain ⟨sb, hsb⟩ : ∃ sb, w2.heap.size = sb := ⟨_, rfl⟩
  rw [hsb]
  obtain ⟨b, hb⟩ : ∃ b, (er != 0) = b := ⟨_, rfl⟩
  clear hW E3 hsb COW
  cases b with
  | true =>
    have hne : ¬ er = 0 := by simpa using hb
    have FIN : Hid (∀ w', Ext w w' → LintOut rs given wanted w (.returned (.tuple #[.slice none 0 0, .int .i64 er])) w') := fun w' e => by
      refine ⟨none, 0, [], by rw [HER.out]; rfl, e, World.ownsRow_nil _ _ _ _, ?_⟩
      rw [HER.out, if_neg hne]
    clear hne
    go_wp2
    go_returns
    exact FIN.out _ HE3.out
  | false =>
    have he0 : er = 0 := by simpa using hb
    have H0 : Hid (strataE rs = 0) := by show _ = _; rw [HER.out, he0]
    subst he0
    have COS := Lib.hid (COT.out H0.out)
    clear COT hb HER
    go_upto_region 5 with (fail)
    refine wp_gen (fun W4 hW => ?_)
    have E4 : Ext W3 W4 := by rw [hW]; exact ext_alloc (Below.refl _ _) _
    have B4 : Blk W4 W3.heap.size 29 [.slice none 0 0] := by
      rw [hW]
      exact Blk.new W3 [.slice none 0 0] 29
    have p0 := keep E4 p0
    have p0d : W4.drew.cell? ⟨pb, 0, none⟩ = some (.slice a n c) := p0
    obtain ⟨ob, hob⟩ : ∃ ob, W3.heap.size = ob := ⟨_, rfl⟩
    rw [hob] at B4 ⊢
    have HE4 := Lib.hid (ext_trans HE3.out E4)
    have HOB : Hid (w.heap.size ≤ ob) := by
      show _ ≤ _
      rw [← hob]
      exact HE3.out.size
    have HB4 := Lib.hid B4
    have CB := Lib.hid (c_bodies W4.drew)
    have mixed : Tryz.prog.follows .mixedOrders = true := by kernel_rfl
    clear hW E4 B4 hob
    go_region_held3 (fun w' => w'.cell? ⟨pb, 0, none⟩ = some (.slice a n c)) (first | (with_reducible exact p0d) | (with_reducible exact p5) | (with_reducible exact p6) | (with_reducible exact p7 _) | (with_reducible exact p8) | fail) (first | (go_at_call 16; (with_reducible refine CB.out.mono ?_); rintro e w5 ⟨rfl, B5, E5⟩; have p5 := keep E5 p0d; have E5' := ext_trans (ext_drew HE4.out) E5) | (go_at_call 17; (with_reducible refine (COS.out _ E5').mono ?_); unfold OthersPost; rintro e w6 ⟨bb, pb2, vb, kb, qb, km, qm, rfl, B6, O6, hsep, E6⟩; have p6 := keep E6 p5; have p7 := fun o => keep (ext_alloc (Below.refl _ w6) o) p6) | (go_at_call 15; (refine (c_catLk _ W4.heap.size bb pb2 vb kb qb _ (by go_simp) (by go_simp) ((show Blk w5 W4.heap.size 62 bodiesV from B5).ext (ext_alloc E6 _)) (B6.ext (ext_alloc (Below.refl _ _) _))).mono ?_); rintro e w8 ⟨lka, lkc, rfl, own8, E8⟩; have p8 := keep E8 (p7 _)) | fail)
    have E8w : Ext w w8 := ext_trans E5' (ext_trans E6 (ext_trans (ext_alloc (Below.refl _ _) _) E8))
    have E48 : Ext W4 w8 := ext_trans (ext_drew (Below.refl _ _)) (ext_trans E5 (ext_trans E6 (ext_trans (ext_alloc (Below.refl _ _) _) E8)))
    have O8 := (O6.up (ext_alloc (Below.refl _ _) _)).up E8
    have hob4 : ob < w5.heap.size := Nat.lt_of_lt_of_le HB4.out.lt E5.size
    have h56 := E6.size
    obtain ⟨g, cc, hv, _⟩ := own_formS own8 (by decide)
    cases hv
    have hgl := (own8.lt g rfl).1
    rw [World.size_alloc] at hgl
    have LK8 : Hid (∀ j u, (bodiesV ++ othersV pb2 vb kb qb)[j]? = some u → w8.cell? ⟨g, j, none⟩ = some u) := fun j u hu => by
      have := own8.cells (g := g) rfl j u hu
      rw [Addr.add_lit, Nat.zero_add] at this
      exact this
    have FJ0 : FJ ob w.heap.size [] (fun x => x = ob) w8 := ⟨⟨none, 0, HB4.out.ext E48, World.ownsRow_nil _ _ _ _, fun x => ⟨fun e => .inl e, fun e => e.elim id (fun e => by cases e)⟩, by intro e; cases e⟩, HOB.out⟩
    have NCG : ¬ (fun x => x = ob) g := fun e => by have e : g = ob := e; omega
    have NS : Hid (pb2 ≠ ob ∧ vb ≠ ob ∧ kb ≠ ob ∧ qb ≠ ob ∧ km ≠ ob ∧ qm ≠ ob) := ⟨by omega, by omega, by omega, by omega, by omega, by omega⟩
    have HFS0 := Lib.hid (FS.start FJ0)
    have HE8 := Lib.hid E8w
    have HO8 := Lib.hid O8
    have CA := Lib.hid (check_all (strata_check H0.out))
    have OVX : Hid (∀ F2 wj, FS ob w.heap.size (fun x => x = ob) w8 F2 wj → OtherV rs given wanted a n c wa wn wc pb2 vb kb qb km qm wj) := fun F2 wj h => by
      have o := HO8.out
      have s := NS.out
      refine ⟨h.cell s.1 o.p, h.cell s.2.1 o.v, h.cell s.2.2.1 o.k, h.cell s.2.2.2.1 o.q, ?_, ?_⟩
      · obtain ⟨es, cl, hm, hx⟩ := o.can
        exact ⟨es, cl, (h.block (Array.getElem?_eq_some_iff.1 hm).1 s.2.2.2.2.1).trans hm, hx⟩
      · obtain ⟨es, cl, hm, hx⟩ := o.ask
        exact ⟨es, cl, (h.block (Array.getElem?_eq_some_iff.1 hm).1 s.2.2.2.2.2).trans hm, hx⟩
    have p8 : w8.cell? ⟨pb, 0, none⟩ = some (.slice a n c) := by assumption
    clear CB COS B5 E5 p5 E5' B6 O6 hsep E6 p6 p7 own8 E8 E8w E48 O8 FJ0 hob4 h56 hgl
    go_wp2
    go_loopw [34] (fun v wr => ∃ k : Nat, k ≤ n ∧ v = .int .i64 (k : Int) ∧ ∃ F, F.Perm (collG (ruleF rs given wanted) 0 (rs.take k)) ∧ FS ob w.heap.size (fun x => x = ob) w8 F wr) (fun v _ => n - (intOf v).toNat)
    case atStart => exact ⟨0, Nat.zero_le _, rfl, [], by simp [collG], HFS0.out⟩
    case round =>
      obtain ⟨k, hk, rfl, F, hF, hs⟩ := hrel
      have HF := Lib.hid hF
      have HS := Lib.hid hs
      have EWr : Ext w wr := hs.keepExt HE8.out (fun x hx => by have hx : x = ob := hx; have := HOB.out; omega)
      have FLN : Hid (F.length ≤ k * 45000) := by
        show _ ≤ _
        rw [hF.length_eq]
        have h1 := collG_len (ruleF rs given wanted) 45000 (rs.take k) 0 (fun i x hx => by
          have hxm : x ∈ rs := List.mem_of_mem_take (List.mem_of_getElem? hx)
          have hi := (List.getElem?_eq_some_iff.1 hx).1
          rw [List.length_take] at hi
          have h2 := (ruleF_few rs given wanted (0 + i) x (CA.out.2 x hxm) (by have := CA.out.1; omega) (by have := CA.out.1; omega)).2 9
          exact h2)
        have h2 := List.length_take_le k rs
        exact Nat.le_trans h1 (Nat.mul_le_mul_right _ h2)
      have hnk : n ≤ 1024 := by have := CA.out.1; have := HL.out; omega
      clear hF
      by_cases hlt : ¬ k < n
      · have hki : ¬ (k : Int) < (n : Int) := by omega
        obtain ⟨C', f1, f2, f3⟩ := hs
        obtain ⟨oa, oc, B, own, hC, hno⟩ := f1.ex
        have hall : F.Perm (lintF rs given wanted) := by
          have := HF.out
          rw [List.take_of_length_le (by have := HL.out; omega)] at this
          exact this
        have hok : ∀ x ∈ F, okF x := fun x hx => by
          have hx2 := hall.mem_iff.1 hx
          refine collG_mem (ruleF rs given wanted) (P := okF) rs 0 (fun i y hy b hb => ?_) x hx2
          have hi := (List.getElem?_eq_some_iff.1 hy).1
          exact (ruleF_few rs given wanted (0 + i) y (CA.out.2 y (List.mem_of_getElem? hy)) (by have := CA.out.1; omega) (by have := CA.out.1; omega)).1 b hb
        have o0 := B.cell (i := 0) rfl
        have hFl := FLN.out
        have SRT := Lib.hid (c_sortFs hok own (by omega))
        unfold SortedPost at SRT
        have FIN : Hid (∀ F' w9, F'.Perm F → RisF F' → w9.ownsRow w.heap.size 37 4 (.slice oa F.length oc) F.length (flatF F') → ButS (fun x => (Value.slice oa F.length oc).ownBlock = some x) wr w9 → w9.cell? ⟨ob, 0, none⟩ = some (.slice oa F.length oc) ∧ LintOut rs given wanted w (.returned (.tuple #[.slice oa F.length oc, .int .i64 0])) w9) := fun F' w9 hp hr ho hb => by
          refine ⟨hb.cell hno o0, oa, oc, F', by rw [H0.out, hp.length_eq], ext_of_but EWr hb (fun x hx e => by have := (own.lt x e).1; omega), by rw [hp.length_eq]; exact ho, ?_⟩
          rw [H0.out, if_pos rfl]
          exact ⟨hp.trans hall, hr⟩
        obtain ⟨fl, hfl⟩ : ∃ fl, F.length = fl := ⟨_, rfl⟩
        rw [hfl] at o0 SRT FIN
        clear f1 f2 f3 B own hC hno hall hok EWr HF HS hFl hfl
        go_wp2_with (go_at_call 19; (with_reducible refine SRT.out.mono ?_); rintro e w9 ⟨rfl, F', hp, hr, ho, hb⟩; obtain ⟨z0, fin⟩ := FIN.out F' w9 hp hr ho hb; have FN := Lib.hid fin; clear hp hr ho hb fin)
        go_returns
        exact FN.out
      · have hlt : k < n := by omega
        have hki : (k : Int) < (n : Int) := by omega
        obtain ⟨r, b, off, hrk, rfl, ah, nh, ch, ab, bn, cb, z0, z1, z2, hr⟩ := H.out.2.at hlt
        have z0 := keep EWr z0
        have z1 := keep EWr z1
        have z2 := keep EWr z2
        have hmay := CA.out.2 r (List.mem_of_getElem? hrk)
        obtain ⟨m1, m2, m3⟩ := may_few hmay
        have HF1 : Hid (nh ≤ 64) := by show _ ≤ _; have := hr.terms.2.1; omega
        have HF2 : Hid (bn ≤ 64) := by show _ ≤ _; have := hr.body.2.1; omega
        have HF3 := Lib.hid m3
        have HMAY := Lib.hid hmay
        have HR := Lib.hid hr
        have HLT := Lib.hid hlt
        obtain ⟨P, hP⟩ : ∃ P : Nat → List Finding, (fun j => (((looksT rs given wanted k r).take j).flatMap fun p => p.2.map (mkF p.1 k))) = P := ⟨_, rfl⟩
        have HPP : Hid (∀ j kd G, (looksT rs given wanted k r)[j]? = some (kd, G) → P (j + 1) = P j ++ G.map (mkF kd k)) := fun j kd G h => by
          rw [← hP]
          dsimp only
          rw [take_at h, List.flatMap_append]
          simp
        have HPL : Hid (∀ j, (P j).length ≤ 45000) := fun j => by
          rw [← hP]
          exact (ruleF_few rs given wanted k r hmay (by have := CA.out.1; omega) (by omega)).2 j
        have HP0 : Hid (P 0 = []) := by show _ = _; rw [← hP]; rfl
        have HTK : Hid (collG (ruleF rs given wanted) 0 (rs.take (k + 1)) = collG (ruleF rs given wanted) 0 (rs.take k) ++ P 9) := by
          show _ = _
          rw [collG_take _ hrk, ← hP]
          rfl
        obtain ⟨C', f1, f2, f3⟩ := hs
        have hlow := fun x hx => (f1.low (x := x) hx).2
        have NCx : ∀ x, wr.heap.size ≤ x → ¬ C' x := fun x hx hc => by have := hlow x hc; omega
        have HFL := FLN.out
        clear hrk hr hmay m1 m2 m3 hP
        go_upto_region 9 with (fail)
        refine wp_gen (fun W8 hW => ?_)
        have E8 : Ext wr W8 := by rw [hW]; exact ext_alloc (ext_alloc (Below.refl _ _) _) _
        have n0 : W8.cell? ⟨wr.heap.size, 0, none⟩ = some (.int .i64 (k : Nat)) := by rw [hW]; go_simp
        have r0 : W8.cell? ⟨wr.heap.size + 1, 0, none⟩ = some (.string r.head.pred) := by rw [hW]; go_simp
        have r1 : W8.cell? ⟨wr.heap.size + 1, 1, none⟩ = some (.slice ah nh ch) := by rw [hW]; go_simp
        have r2 : W8.cell? ⟨wr.heap.size + 1, 2, none⟩ = some (.slice ab bn cb) := by rw [hW]; go_simp
        have nc1 := NCx wr.heap.size (Nat.le_refl _)
        have nc2 := NCx (wr.heap.size + 1) (by omega)
        obtain ⟨nx, hnx⟩ : ∃ nx, wr.heap.size = nx := ⟨_, rfl⟩
        rw [hnx] at n0 r0 r1 r2 nc1 nc2 ⊢
        obtain ⟨rx, hrx⟩ : ∃ rx, nx + 1 = rx := ⟨_, rfl⟩
        rw [hrx] at r0 r1 r2 nc2 ⊢
        have B8 : ButS (fun x => x = ob) w8 W8 := f3.ext E8
        have HJ0 := Lib.hid (f1.up E8)
        have COMP : Hid (∀ F2 wj, FS ob w.heap.size C' W8 F2 wj → FS ob w.heap.size (fun x => x = ob) w8 F2 wj) := fun F2 wj h => h.comp f2 B8
        have HN0 := Lib.hid n0
        have HR0 := Lib.hid (And.intro r0 (And.intro r1 r2))
        have HNC := Lib.hid (And.intro nc1 nc2)
        have LIN : Hid (∀ F2 C2 wj W12 kd, FJ ob w.heap.size F2 C2 wj → (∀ x, C2 x → C' x ∨ W8.heap.size ≤ x) → ButS C' W8 wj → F2.length ≤ 999000000 → Ext wj W12 → W12.cell? ⟨wj.heap.size, 0, none⟩ = some (.int .i64 kd) → LookIn w ob w.heap.size wj.heap.size nx kd k F2 C2 W12) := fun F2 C2 wj W12 kd h1 h2 h3 h4 e12 hk0 => by
          have hnl : nx < W8.heap.size := World.block_lt_of_cell? W8 ⟨nx, 0, none⟩ HN0.out
          refine ⟨h1.up e12, hk0, keep e12 (h3.cell HNC.out.1 HN0.out), fun hc => by have := (h1.low hc).2; omega, fun hc => (h2 nx hc).elim HNC.out.1 (fun h => by omega), h4, ?_, fun x hx => (h1.low hx).1⟩
          have fs : FS ob w.heap.size C' W8 F2 wj := ⟨C2, h1, h2, h3⟩
          exact ext_trans ((COMP.out F2 wj fs).keepExt HE8.out (fun x hx => by have hx : x = ob := hx; have := HOB.out; omega)) e12
        have NXT : Hid (∀ (j : Nat) (kd : Int) (G : List Tell) (F2 : List Finding) (C2 : Nat → Prop) (wj W12 : World), (looksT rs given wanted k r)[j]? = some (kd, G) → F2.Perm (F ++ P j) → (∀ x, C2 x → C' x ∨ W8.heap.size ≤ x) → ButS C' W8 wj → Ext wj W12 → ∀ G' w13, G'.Perm (G.map (mkF kd k)) → FS ob w.heap.size C2 W12 (F2 ++ G') w13 → ∃ F3, F3.Perm (F ++ P (j + 1)) ∧ FS ob w.heap.size C' W8 F3 w13) := fun j kd G F2 C2 wj W12 hj hp h2 h3 e12 G' w13 hG h13 => by
          refine ⟨F2 ++ G', ?_, h13.comp h2 (h3.ext e12)⟩
          rw [HPP.out j kd G hj, ← List.append_assoc]
          exact hp.append hG
        clear hW E8 hnx hrx f1 f2 f3 B8 nc1 nc2 NCx hlow HS EWr z0 z1 z2
        go_wp2
        go_loopw [41] (fun v wr => ∃ j : Nat, j ≤ 9 ∧ v = .int .i64 (j : Int) ∧ ∃ F2, F2.Perm (F ++ P j) ∧ FS ob w.heap.size C' W8 F2 wr) (fun v _ => 9 - (intOf v).toNat)
        case atStart => exact ⟨0, Nat.zero_le _, rfl, F, by rw [HP0.out, List.append_nil], FS.start HJ0.out⟩
        case round =>
          obtain ⟨j, hj, rfl, F2, hpm, hjs⟩ := hrel
          have hjo := COMP.out F2 wr hjs
          have OVJ := Lib.hid (OVX.out F2 wr hjo)
          have n0 := hjs.cell HNC.out.1 HN0.out
          have r0 := hjs.cell HNC.out.2 HR0.out.1
          have r1 := hjs.cell HNC.out.2 HR0.out.2.1
          have r2 := hjs.cell HNC.out.2 HR0.out.2.2
          have h4 : F2.length ≤ 999000000 := by
            have h1 := hpm.length_eq
            have h2 := HPL.out j
            rw [List.length_append] at h1
            omega
          have HJ4 := Lib.hid h4
          have HPM := Lib.hid hpm
          have HJS := Lib.hid hjs
          obtain ⟨C2, e1, e2, e3⟩ := hjs
          have HJ1 := Lib.hid e1
          have HJ2 := Lib.hid e2
          have HJ3 := Lib.hid e3
          clear hpm e1 e2 e3 h4
          have hj9 : j = 0 ∨ j = 1 ∨ j = 2 ∨ j = 3 ∨ j = 4 ∨ j = 5 ∨ j = 6 ∨ j = 7 ∨ j = 8 ∨ j = 9 := by omega
          rcases hj9 with rfl | rfl | rfl | rfl | rfl | rfl | rfl | rfl | rfl | rfl
          · have l0 : wr.cell? ⟨g, 0, none⟩ = some (.int .i64 1) := hjo.cell NCG (LK8.out 0 _ rfl)
            have l1 : wr.cell? ⟨g, 1, none⟩ = some (.func (.func 29) #[] #[]) := hjo.cell NCG (LK8.out 1 _ rfl)
            clear hjo
            go_upto_region 12 with (fail)
            refine wp_gen (fun W12 hW => ?_)
            have E12 : Ext wr W12 := by rw [hW]; exact ext_alloc (Below.refl _ _) _
            have k0 : W12.cell? ⟨wr.heap.size, 0, none⟩ = some (.int .i64 1) := by rw [hW]; go_simp
            have k1 : W12.cell? ⟨wr.heap.size, 1, none⟩ = some (.func (.func 29) #[] #[]) := by rw [hW]; go_simp
            have n0 := keep E12 n0
            have r0 := keep E12 r0
            have r1 := keep E12 r1
            have r2 := keep E12 r2
            have LI : LookIn w ob w.heap.size wr.heap.size nx 1 k F2 C2 W12 := LIN.out F2 C2 wr W12 _ HJ1.out HJ2.out HJ3.out HJ4.out E12 k0
            have OV := OVJ.out.up E12
            have CL : Hid (∀ lb, wr.heap.size = lb → Calls Tryz.prog 29 #[.int .i64 (k : Nat), .agg #[.string r.head.pred, .slice ah nh ch, .slice ab bn cb], .func (.func 18) #[] #[.pointer (some ⟨ob, 0, none⟩), .pointer (some ⟨lb, 0, none⟩), .pointer (some ⟨nx, 0, none⟩)]] W12 (LookPost ob w.heap.size C2 W12 F2 ((look1 r).map (mkF 1 k)))) := fun lb hlb => by
              subst hlb
              exact c_look1 LI r ah nh ch ab bn cb HR.out HMAY.out
            have NX := Lib.hid (NXT.out 0 1 (look1 r) F2 C2 wr W12 rfl HPM.out HJ2.out HJ3.out E12)
            obtain ⟨lb, hlb⟩ : ∃ lb, wr.heap.size = lb := ⟨_, rfl⟩
            have CLB := Lib.hid (CL.out lb hlb)
            rw [hlb] at k0 k1 ⊢
            clear hW LI OV CL hlb E12
            go_wp2_with (go_at_call 29; (with_reducible refine CLB.out.mono ?_); unfold LookPost; rintro e w13 ⟨rfl, G', hG, S13⟩; have N13 := Lib.hid (NX.out G' w13 hG S13); clear hG S13)
            go_roundw
            case rel => exact ⟨1, by omega, by go_num, N13.out⟩
            case measure => simp [intOf]
          · have l0 : wr.cell? ⟨g, 2, none⟩ = some (.int .i64 2) := hjo.cell NCG (LK8.out 2 _ rfl)
            have l1 : wr.cell? ⟨g, 3, none⟩ = some (.func (.func 33) #[] #[]) := hjo.cell NCG (LK8.out 3 _ rfl)
            clear hjo
            go_upto_region 12 with (fail)
            refine wp_gen (fun W12 hW => ?_)
            have E12 : Ext wr W12 := by rw [hW]; exact ext_alloc (Below.refl _ _) _
            have k0 : W12.cell? ⟨wr.heap.size, 0, none⟩ = some (.int .i64 2) := by rw [hW]; go_simp
            have k1 : W12.cell? ⟨wr.heap.size, 1, none⟩ = some (.func (.func 33) #[] #[]) := by rw [hW]; go_simp
            have n0 := keep E12 n0
            have r0 := keep E12 r0
            have r1 := keep E12 r1
            have r2 := keep E12 r2
            have LI : LookIn w ob w.heap.size wr.heap.size nx 2 k F2 C2 W12 := LIN.out F2 C2 wr W12 _ HJ1.out HJ2.out HJ3.out HJ4.out E12 k0
            have OV := OVJ.out.up E12
            have CL : Hid (∀ lb, wr.heap.size = lb → Calls Tryz.prog 33 #[.int .i64 (k : Nat), .agg #[.string r.head.pred, .slice ah nh ch, .slice ab bn cb], .func (.func 18) #[] #[.pointer (some ⟨ob, 0, none⟩), .pointer (some ⟨lb, 0, none⟩), .pointer (some ⟨nx, 0, none⟩)]] W12 (LookPost ob w.heap.size C2 W12 F2 ((look2 r).map (mkF 2 k)))) := fun lb hlb => by
              subst hlb
              exact c_look2 LI r ah nh ch ab bn cb HR.out HMAY.out HF2.out
            have NX := Lib.hid (NXT.out 1 2 (look2 r) F2 C2 wr W12 rfl HPM.out HJ2.out HJ3.out E12)
            obtain ⟨lb, hlb⟩ : ∃ lb, wr.heap.size = lb := ⟨_, rfl⟩
            have CLB := Lib.hid (CL.out lb hlb)
            rw [hlb] at k0 k1 ⊢
            clear hW LI OV CL hlb E12
            go_wp2_with (go_at_call 33; (with_reducible refine CLB.out.mono ?_); unfold LookPost; rintro e w13 ⟨rfl, G', hG, S13⟩; have N13 := Lib.hid (NX.out G' w13 hG S13); clear hG S13)
            go_roundw
            case rel => exact ⟨2, by omega, by go_num, N13.out⟩
            case measure => simp [intOf]
          · have l0 : wr.cell? ⟨g, 4, none⟩ = some (.int .i64 3) := hjo.cell NCG (LK8.out 4 _ rfl)
            have l1 : wr.cell? ⟨g, 5, none⟩ = some (.func (.func 36) #[] #[]) := hjo.cell NCG (LK8.out 5 _ rfl)
            clear hjo
            go_upto_region 12 with (fail)
            refine wp_gen (fun W12 hW => ?_)
            have E12 : Ext wr W12 := by rw [hW]; exact ext_alloc (Below.refl _ _) _
            have k0 : W12.cell? ⟨wr.heap.size, 0, none⟩ = some (.int .i64 3) := by rw [hW]; go_simp
            have k1 : W12.cell? ⟨wr.heap.size, 1, none⟩ = some (.func (.func 36) #[] #[]) := by rw [hW]; go_simp
            have n0 := keep E12 n0
            have r0 := keep E12 r0
            have r1 := keep E12 r1
            have r2 := keep E12 r2
            have LI : LookIn w ob w.heap.size wr.heap.size nx 3 k F2 C2 W12 := LIN.out F2 C2 wr W12 _ HJ1.out HJ2.out HJ3.out HJ4.out E12 k0
            have OV := OVJ.out.up E12
            have CL : Hid (∀ lb, wr.heap.size = lb → Calls Tryz.prog 36 #[.int .i64 (k : Nat), .agg #[.string r.head.pred, .slice ah nh ch, .slice ab bn cb], .func (.func 18) #[] #[.pointer (some ⟨ob, 0, none⟩), .pointer (some ⟨lb, 0, none⟩), .pointer (some ⟨nx, 0, none⟩)]] W12 (LookPost ob w.heap.size C2 W12 F2 ((look3 r).map (mkF 3 k)))) := fun lb hlb => by
              subst hlb
              exact c_look3 LI r ah nh ch ab bn cb HR.out HF2.out
            have NX := Lib.hid (NXT.out 2 3 (look3 r) F2 C2 wr W12 rfl HPM.out HJ2.out HJ3.out E12)
            obtain ⟨lb, hlb⟩ : ∃ lb, wr.heap.size = lb := ⟨_, rfl⟩
            have CLB := Lib.hid (CL.out lb hlb)
            rw [hlb] at k0 k1 ⊢
            clear hW LI OV CL hlb E12
            go_wp2_with (go_at_call 36; (with_reducible refine CLB.out.mono ?_); unfold LookPost; rintro e w13 ⟨rfl, G', hG, S13⟩; have N13 := Lib.hid (NX.out G' w13 hG S13); clear hG S13)
            go_roundw
            case rel => exact ⟨3, by omega, by go_num, N13.out⟩
            case measure => simp [intOf]
          · have l0 : wr.cell? ⟨g, 6, none⟩ = some (.int .i64 4) := hjo.cell NCG (LK8.out 6 _ rfl)
            have l1 : wr.cell? ⟨g, 7, none⟩ = some (.func (.func 40) #[] #[]) := hjo.cell NCG (LK8.out 7 _ rfl)
            clear hjo
            go_upto_region 12 with (fail)
            refine wp_gen (fun W12 hW => ?_)
            have E12 : Ext wr W12 := by rw [hW]; exact ext_alloc (Below.refl _ _) _
            have k0 : W12.cell? ⟨wr.heap.size, 0, none⟩ = some (.int .i64 4) := by rw [hW]; go_simp
            have k1 : W12.cell? ⟨wr.heap.size, 1, none⟩ = some (.func (.func 40) #[] #[]) := by rw [hW]; go_simp
            have n0 := keep E12 n0
            have r0 := keep E12 r0
            have r1 := keep E12 r1
            have r2 := keep E12 r2
            have LI : LookIn w ob w.heap.size wr.heap.size nx 4 k F2 C2 W12 := LIN.out F2 C2 wr W12 _ HJ1.out HJ2.out HJ3.out HJ4.out E12 k0
            have OV := OVJ.out.up E12
            have CL : Hid (∀ lb, wr.heap.size = lb → Calls Tryz.prog 40 #[.int .i64 (k : Nat), .agg #[.string r.head.pred, .slice ah nh ch, .slice ab bn cb], .func (.func 18) #[] #[.pointer (some ⟨ob, 0, none⟩), .pointer (some ⟨lb, 0, none⟩), .pointer (some ⟨nx, 0, none⟩)]] W12 (LookPost ob w.heap.size C2 W12 F2 ((look4 r).map (mkF 4 k)))) := fun lb hlb => by
              subst hlb
              exact c_look4 LI r ah nh ch ab bn cb HR.out HF1.out HF2.out HF3.out
            have NX := Lib.hid (NXT.out 3 4 (look4 r) F2 C2 wr W12 rfl HPM.out HJ2.out HJ3.out E12)
            obtain ⟨lb, hlb⟩ : ∃ lb, wr.heap.size = lb := ⟨_, rfl⟩
            have CLB := Lib.hid (CL.out lb hlb)
            rw [hlb] at k0 k1 ⊢
            clear hW LI OV CL hlb E12
            go_wp2_with (go_at_call 40; (with_reducible refine CLB.out.mono ?_); unfold LookPost; rintro e w13 ⟨rfl, G', hG, S13⟩; have N13 := Lib.hid (NX.out G' w13 hG S13); clear hG S13)
            go_roundw
            case rel => exact ⟨4, by omega, by go_num, N13.out⟩
            case measure => simp [intOf]
          · have l0 : wr.cell? ⟨g, 8, none⟩ = some (.int .i64 7) := hjo.cell NCG (LK8.out 8 _ rfl)
            have l1 : wr.cell? ⟨g, 9, none⟩ = some (.func (.func 41) #[] #[]) := hjo.cell NCG (LK8.out 9 _ rfl)
            clear hjo
            go_upto_region 12 with (fail)
            refine wp_gen (fun W12 hW => ?_)
            have E12 : Ext wr W12 := by rw [hW]; exact ext_alloc (Below.refl _ _) _
            have k0 : W12.cell? ⟨wr.heap.size, 0, none⟩ = some (.int .i64 7) := by rw [hW]; go_simp
            have k1 : W12.cell? ⟨wr.heap.size, 1, none⟩ = some (.func (.func 41) #[] #[]) := by rw [hW]; go_simp
            have n0 := keep E12 n0
            have r0 := keep E12 r0
            have r1 := keep E12 r1
            have r2 := keep E12 r2
            have LI : LookIn w ob w.heap.size wr.heap.size nx 7 k F2 C2 W12 := LIN.out F2 C2 wr W12 _ HJ1.out HJ2.out HJ3.out HJ4.out E12 k0
            have OV := OVJ.out.up E12
            have CL : Hid (∀ lb, wr.heap.size = lb → Calls Tryz.prog 41 #[.int .i64 (k : Nat), .agg #[.string r.head.pred, .slice ah nh ch, .slice ab bn cb], .func (.func 18) #[] #[.pointer (some ⟨ob, 0, none⟩), .pointer (some ⟨lb, 0, none⟩), .pointer (some ⟨nx, 0, none⟩)]] W12 (LookPost ob w.heap.size C2 W12 F2 ((look5 r).map (mkF 7 k)))) := fun lb hlb => by
              subst hlb
              exact c_look5 LI r ah nh ch ab bn cb HR.out HF2.out
            have NX := Lib.hid (NXT.out 4 7 (look5 r) F2 C2 wr W12 rfl HPM.out HJ2.out HJ3.out E12)
            obtain ⟨lb, hlb⟩ : ∃ lb, wr.heap.size = lb := ⟨_, rfl⟩
            have CLB := Lib.hid (CL.out lb hlb)
            rw [hlb] at k0 k1 ⊢
            clear hW LI OV CL hlb E12
            go_wp2_with (go_at_call 41; (with_reducible refine CLB.out.mono ?_); unfold LookPost; rintro e w13 ⟨rfl, G', hG, S13⟩; have N13 := Lib.hid (NX.out G' w13 hG S13); clear hG S13)
            go_roundw
            case rel => exact ⟨5, by omega, by go_num, N13.out⟩
            case measure => simp [intOf]
          · have l0 : wr.cell? ⟨g, 10, none⟩ = some (.int .i64 5) := hjo.cell NCG (LK8.out 10 _ rfl)
            have l1 : wr.cell? ⟨g, 11, none⟩ = some (.func (.func 46) #[] #[.pointer (some ⟨pb2, 0, none⟩)]) := hjo.cell NCG (LK8.out 11 _ rfl)
            clear hjo
            go_upto_region 12 with (fail)
            refine wp_gen (fun W12 hW => ?_)
            have E12 : Ext wr W12 := by rw [hW]; exact ext_alloc (Below.refl _ _) _
            have k0 : W12.cell? ⟨wr.heap.size, 0, none⟩ = some (.int .i64 5) := by rw [hW]; go_simp
            have k1 : W12.cell? ⟨wr.heap.size, 1, none⟩ = some (.func (.func 46) #[] #[.pointer (some ⟨pb2, 0, none⟩)]) := by rw [hW]; go_simp
            have n0 := keep E12 n0
            have r0 := keep E12 r0
            have r1 := keep E12 r1
            have r2 := keep E12 r2
            have LI : LookIn w ob w.heap.size wr.heap.size nx 5 k F2 C2 W12 := LIN.out F2 C2 wr W12 _ HJ1.out HJ2.out HJ3.out HJ4.out E12 k0
            have OV := OVJ.out.up E12
            have CL : Hid (∀ lb, wr.heap.size = lb → Calls Tryz.prog 46 #[.int .i64 (k : Nat), .agg #[.string r.head.pred, .slice ah nh ch, .slice ab bn cb], .func (.func 18) #[] #[.pointer (some ⟨ob, 0, none⟩), .pointer (some ⟨lb, 0, none⟩), .pointer (some ⟨nx, 0, none⟩)], .pointer (some ⟨pb2, 0, none⟩)] W12 (LookPost ob w.heap.size C2 W12 F2 ((lookA rs k r).map (mkF 5 k)))) := fun lb hlb => by
              subst hlb
              exact c_lookA LI r ah nh ch ab bn cb HR.out HT.out rs _ n c pb2 H.out HLT.out hcap OV.p
            have NX := Lib.hid (NXT.out 5 5 (lookA rs k r) F2 C2 wr W12 rfl HPM.out HJ2.out HJ3.out E12)
            obtain ⟨lb, hlb⟩ : ∃ lb, wr.heap.size = lb := ⟨_, rfl⟩
            have CLB := Lib.hid (CL.out lb hlb)
            rw [hlb] at k0 k1 ⊢
            clear hW LI OV CL hlb E12
            go_wp2_with (go_at_call 46; (with_reducible refine CLB.out.mono ?_); unfold LookPost; rintro e w13 ⟨rfl, G', hG, S13⟩; have N13 := Lib.hid (NX.out G' w13 hG S13); clear hG S13)
            go_roundw
            case rel => exact ⟨6, by omega, by go_num, N13.out⟩
            case measure => simp [intOf]
          · have l0 : wr.cell? ⟨g, 12, none⟩ = some (.int .i64 6) := hjo.cell NCG (LK8.out 12 _ rfl)
            have l1 : wr.cell? ⟨g, 13, none⟩ = some (.func (.func 50) #[] #[.pointer (some ⟨pb2, 0, none⟩)]) := hjo.cell NCG (LK8.out 13 _ rfl)
            clear hjo
            go_upto_region 12 with (fail)
            refine wp_gen (fun W12 hW => ?_)
            have E12 : Ext wr W12 := by rw [hW]; exact ext_alloc (Below.refl _ _) _
            have k0 : W12.cell? ⟨wr.heap.size, 0, none⟩ = some (.int .i64 6) := by rw [hW]; go_simp
            have k1 : W12.cell? ⟨wr.heap.size, 1, none⟩ = some (.func (.func 50) #[] #[.pointer (some ⟨pb2, 0, none⟩)]) := by rw [hW]; go_simp
            have n0 := keep E12 n0
            have r0 := keep E12 r0
            have r1 := keep E12 r1
            have r2 := keep E12 r2
            have LI : LookIn w ob w.heap.size wr.heap.size nx 6 k F2 C2 W12 := LIN.out F2 C2 wr W12 _ HJ1.out HJ2.out HJ3.out HJ4.out E12 k0
            have OV := OVJ.out.up E12
            have CL : Hid (∀ lb, wr.heap.size = lb → Calls Tryz.prog 50 #[.int .i64 (k : Nat), .agg #[.string r.head.pred, .slice ah nh ch, .slice ab bn cb], .func (.func 18) #[] #[.pointer (some ⟨ob, 0, none⟩), .pointer (some ⟨lb, 0, none⟩), .pointer (some ⟨nx, 0, none⟩)], .pointer (some ⟨pb2, 0, none⟩)] W12 (LookPost ob w.heap.size C2 W12 F2 ((lookW rs k r).map (mkF 6 k)))) := fun lb hlb => by
              subst hlb
              exact c_lookW LI r ah nh ch ab bn cb HR.out HT.out rs _ n c pb2 H.out OV.p
            have NX := Lib.hid (NXT.out 6 6 (lookW rs k r) F2 C2 wr W12 rfl HPM.out HJ2.out HJ3.out E12)
            obtain ⟨lb, hlb⟩ : ∃ lb, wr.heap.size = lb := ⟨_, rfl⟩
            have CLB := Lib.hid (CL.out lb hlb)
            rw [hlb] at k0 k1 ⊢
            clear hW LI OV CL hlb E12
            go_wp2_with (go_at_call 50; (with_reducible refine CLB.out.mono ?_); unfold LookPost; rintro e w13 ⟨rfl, G', hG, S13⟩; have N13 := Lib.hid (NX.out G' w13 hG S13); clear hG S13)
            go_roundw
            case rel => exact ⟨7, by omega, by go_num, N13.out⟩
            case measure => simp [intOf]
          · have l0 : wr.cell? ⟨g, 14, none⟩ = some (.int .i64 8) := hjo.cell NCG (LK8.out 14 _ rfl)
            have l1 : wr.cell? ⟨g, 15, none⟩ = some (.func (.func 51) #[] #[.pointer (some ⟨kb, 0, none⟩)]) := hjo.cell NCG (LK8.out 15 _ rfl)
            clear hjo
            go_upto_region 12 with (fail)
            refine wp_gen (fun W12 hW => ?_)
            have E12 : Ext wr W12 := by rw [hW]; exact ext_alloc (Below.refl _ _) _
            have k0 : W12.cell? ⟨wr.heap.size, 0, none⟩ = some (.int .i64 8) := by rw [hW]; go_simp
            have k1 : W12.cell? ⟨wr.heap.size, 1, none⟩ = some (.func (.func 51) #[] #[.pointer (some ⟨kb, 0, none⟩)]) := by rw [hW]; go_simp
            have n0 := keep E12 n0
            have r0 := keep E12 r0
            have r1 := keep E12 r1
            have r2 := keep E12 r2
            have LI : LookIn w ob w.heap.size wr.heap.size nx 8 k F2 C2 W12 := LIN.out F2 C2 wr W12 _ HJ1.out HJ2.out HJ3.out HJ4.out E12 k0
            have OV := OVJ.out.up E12
            have CL : Hid (∀ lb, wr.heap.size = lb → Calls Tryz.prog 51 #[.int .i64 (k : Nat), .agg #[.string r.head.pred, .slice ah nh ch, .slice ab bn cb], .func (.func 18) #[] #[.pointer (some ⟨ob, 0, none⟩), .pointer (some ⟨lb, 0, none⟩), .pointer (some ⟨nx, 0, none⟩)], .pointer (some ⟨kb, 0, none⟩)] W12 (LookPost ob w.heap.size C2 W12 F2 ((look8 (liveV rs given) r).map (mkF 8 k)))) := fun lb hlb => by
              subst hlb
              exact c_look8 LI r ah nh ch ab bn cb HR.out (liveV rs given) kb km OV.k OV.can
            have NX := Lib.hid (NXT.out 7 8 (look8 (liveV rs given) r) F2 C2 wr W12 rfl HPM.out HJ2.out HJ3.out E12)
            obtain ⟨lb, hlb⟩ : ∃ lb, wr.heap.size = lb := ⟨_, rfl⟩
            have CLB := Lib.hid (CL.out lb hlb)
            rw [hlb] at k0 k1 ⊢
            clear hW LI OV CL hlb E12
            go_wp2_with (go_at_call 51; (with_reducible refine CLB.out.mono ?_); unfold LookPost; rintro e w13 ⟨rfl, G', hG, S13⟩; have N13 := Lib.hid (NX.out G' w13 hG S13); clear hG S13)
            go_roundw
            case rel => exact ⟨8, by omega, by go_num, N13.out⟩
            case measure => simp [intOf]
          · have l0 : wr.cell? ⟨g, 16, none⟩ = some (.int .i64 9) := hjo.cell NCG (LK8.out 16 _ rfl)
            have l1 : wr.cell? ⟨g, 17, none⟩ = some (.func (.func 53) #[] #[.pointer (some ⟨vb, 0, none⟩), .pointer (some ⟨qb, 0, none⟩)]) := hjo.cell NCG (LK8.out 17 _ rfl)
            clear hjo
            go_upto_region 12 with (fail)
            refine wp_gen (fun W12 hW => ?_)
            have E12 : Ext wr W12 := by rw [hW]; exact ext_alloc (Below.refl _ _) _
            have k0 : W12.cell? ⟨wr.heap.size, 0, none⟩ = some (.int .i64 9) := by rw [hW]; go_simp
            have k1 : W12.cell? ⟨wr.heap.size, 1, none⟩ = some (.func (.func 53) #[] #[.pointer (some ⟨vb, 0, none⟩), .pointer (some ⟨qb, 0, none⟩)]) := by rw [hW]; go_simp
            have n0 := keep E12 n0
            have r0 := keep E12 r0
            have r1 := keep E12 r1
            have r2 := keep E12 r2
            have LI : LookIn w ob w.heap.size wr.heap.size nx 9 k F2 C2 W12 := LIN.out F2 C2 wr W12 _ HJ1.out HJ2.out HJ3.out HJ4.out E12 k0
            have OV := OVJ.out.up E12
            have CL : Hid (∀ lb, wr.heap.size = lb → Calls Tryz.prog 53 #[.int .i64 (k : Nat), .agg #[.string r.head.pred, .slice ah nh ch, .slice ab bn cb], .func (.func 18) #[] #[.pointer (some ⟨ob, 0, none⟩), .pointer (some ⟨lb, 0, none⟩), .pointer (some ⟨nx, 0, none⟩)], .pointer (some ⟨vb, 0, none⟩), .pointer (some ⟨qb, 0, none⟩)] W12 (LookPost ob w.heap.size C2 W12 F2 ((look9 wanted (askedV rs wanted) r).map (mkF 9 k)))) := fun lb hlb => by
              subst hlb
              exact c_look9 LI r ah nh ch ab bn cb wanted (askedV rs wanted) wa wn wc vb qb qm OV.v HWL.out OV.q OV.ask
            have NX := Lib.hid (NXT.out 8 9 (look9 wanted (askedV rs wanted) r) F2 C2 wr W12 rfl HPM.out HJ2.out HJ3.out E12)
            obtain ⟨lb, hlb⟩ : ∃ lb, wr.heap.size = lb := ⟨_, rfl⟩
            have CLB := Lib.hid (CL.out lb hlb)
            rw [hlb] at k0 k1 ⊢
            clear hW LI OV CL hlb E12
            go_wp2_with (go_at_call 53; (with_reducible refine CLB.out.mono ?_); unfold LookPost; rintro e w13 ⟨rfl, G', hG, S13⟩; have N13 := Lib.hid (NX.out G' w13 hG S13); clear hG S13)
            go_roundw
            case rel => exact ⟨9, by omega, by go_num, N13.out⟩
            case measure => simp [intOf]
          · have FN : Hid (∃ F, F.Perm (collG (ruleF rs given wanted) 0 (rs.take (k + 1))) ∧ FS ob w.heap.size (fun x => x = ob) w8 F wr) := ⟨F2, by
              rw [HTK.out]
              exact HPM.out.trans (HF.out.append (.refl _)), hjo⟩
            clear hjo
            go_wp2
            refine ⟨⟨k + 1, HLT.out, by go_num, FN.out⟩, ?_⟩
            have := HLT.out
            simp [intOf]
            omega
end Go.Proofs.YtlalgaioiapjmaaGreatDoor
