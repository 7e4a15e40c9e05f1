/- The walk of graph.Depths. -/
import Derived.Test.YtlalgaioiapjmaaGreatDoorG18
namespace Go.Proofs.YtlalgaioiapjmaaGreatDoor
open Go.ChangeShapes Go.WideShapes Go.ChangeAt Go.RowKit
open K (WSt foundW adj partOf roundW fuelW)
def DepPost (es : List K.Edge) (n : Nat) (w : World) (e : Ending) (w' : World) : Prop :=
  (roundW (foundW n es) es = true ∧ e = .returned (.tuple #[.slice none 0 0, .int .i64 100]) ∧ Ext w w') ∨
  (roundW (foundW n es) es = false ∧ ∃ g, e = .returned (.tuple #[.slice (some ⟨g, 0, none⟩) n n, .int .i64 0]) ∧ w.heap.size ≤ g ∧ Blk w' g 3 ((depthsV n es).map numV) ∧ Ext w w')
theorem found_facts {n : Nat} {es : List K.Edge} (hok : EdgesOk n es) (hn : n ≤ 65536) (hm : es.length ≤ 1048576) : (foundW n es).part.length = n ∧ (foundW n es).all ≤ 100000000000 := by
  have h := stI_inv (es := es) (n := n) (fun v _ t ht => adj_ok (fun e he => ⟨(hok e he).1, (hok e he).2.1, (hok e he).2.2.1, (hok e he).2.2.2.1⟩) v t ht) n (Nat.le_refl _)
  rw [stI_all] at h
  have h2 := h.b2
  have h3 := fuel_le es n
  have h4 : n * (fuelW (adj es) n + 1) ≤ 65536 * 1200000 := Nat.mul_le_mul hn (by omega)
  exact ⟨h.lp, by omega⟩
set_option maxRecDepth 100000 in
set_option maxHeartbeats 8000000 in
theorem c_depths (es : List K.Edge) (a : Option Addr) (m cap n : Nat) (w : World) (he : EdgesAt w a m es) (hn : n ≤ 65536) (hok : EdgesOk n es) :
    Calls Tryz.prog 27 #[.int .i64 (n : Int), .slice a m cap] w (DepPost es n w) := by
  have hm := he.1
  have hml : es.length = m := he.2.1
  obtain ⟨hpl, hall⟩ := found_facts hok hn (by omega)
  have PL := Lib.hid (part_lt hok)
  have hok4 : ∀ e ∈ es, 0 ≤ e.src ∧ e.src < (n : Int) ∧ 0 ≤ e.dst ∧ e.dst < (n : Int) := fun e he => ⟨(hok e he).1, (hok e he).2.1, (hok e he).2.2.1, (hok e he).2.2.2.1⟩
  have FND : Hid (∀ W, Ext w W → Calls Tryz.prog 66 #[.int .i64 (n : Int), .slice a m cap] W fun e w' => ∃ pb, e = .returned (.tuple #[.slice (some ⟨pb, 0, none⟩) n n, .int .i64 ((foundW n es).all : Int)]) ∧ W.heap.size ≤ pb ∧ Blk w' pb 3 ((foundW n es).part.map optV) ∧ Ext W w') := fun W E => c_found es a m cap n W (he.keep E) hn hok4
  have CHK := Lib.hid (c_checkG es a m cap n w he hn hok)
  obtain ⟨s, hs⟩ : ∃ s, foundW n es = s := ⟨_, rfl⟩
  unfold DepPost depthsV
  rw [hs] at hpl hall PL FND ⊢
  obtain ⟨i0, hi, hz0, hz1, hz2⟩ := info_parts info_edges
  have MK : ∀ W : World, (Instr.makeSlice 117 (.int .i64 (s.all : Int)) (.int .i64 (s.all : Int))).run Tryz.prog W = .ok (.slice (some ⟨W.heap.size, 0, none⟩) s.all s.all) (W.alloc (.cells (Array.replicate s.all (.slice none 0 0)) 80)) := fun W => mkS W _ _ i0 _ Tryz.underlying117 hi hz0 hz1 rfl s.all (by rw [hz2]; omega) (by unfold maxLen; omega)
  obtain ⟨j0, hj, yz0, yz1, yz2⟩ := info_parts info_int
  have MKI : ∀ (W : World) (k : Nat), k ≤ 100000000000 → (Instr.makeSlice 52 (.int .i64 (k : Int)) (.int .i64 (k : Int))).run Tryz.prog W = .ok (.slice (some ⟨W.heap.size, 0, none⟩) k k) (W.alloc (.cells (Array.replicate k (.int .i64 0)) 3)) := fun W k hk => mkS W _ _ j0 _ Tryz.underlying52 hj yz0 yz1 rfl k (by rw [yz2]; omega) (by unfold maxLen; omega)
  have HE := Lib.hid he
  have HO := Lib.hid hok
  have HMI := Lib.hid MKI
  have HML := Lib.hid hml
  have HPL := Lib.hid hpl
  clear hi hz0 hz1 hz2 he hok hok4 hj yz0 yz1 yz2 MKI hml hs hpl
  go_enter Tryz.func27, Tryz.ntmps27
  go_upto_region 5 with (first
    | (go_at_call 65; (with_reducible refine CHK.out.mono ?_); rintro e w1 ⟨rfl, E1⟩)
    | (go_at_call 66; (with_reducible refine (FND.out _ E1).mono ?_); rintro e w2 ⟨pb, rfl, hpb, BP, E2⟩)
    | fail)
  have E12 : Ext w w2 := ext_trans E1 E2
  have HBP := Lib.hid BP
  have HPB := Lib.hid (Nat.le_trans E1.size hpb)
  clear E1 E2 BP hpb CHK FND w1
  have hlt2 := HBP.out.lt
  go_wp2
  refine wp_gen (fun W hW => ?_)
  obtain ⟨gd, hgd⟩ : ∃ gd, gd = w2.heap.size := ⟨_, rfl⟩
  have EW : Ext w2 W := by rw [hW]; exact ext_alloc (Below.refl _ _) _
  have D0 : DownV W (fun b => b = gd) gd gd s [] := by
    rw [hW, hgd]
    exact ListsAt.start (Blk.made w2 s.all (.slice none 0 0) 80)
  have hsz : gd < W.heap.size := by rw [hW, hgd]; simp
  have HGD := Lib.hid hgd
  rw [← hgd] at hlt2 ⊢
  clear hW MK hgd
  go_loopw [36] (fun v wj => ∃ k : Nat, k ≤ m ∧ v = .int .i64 (k : Int) ∧ Ext w2 wj ∧ roundW s (es.take k) = false ∧ ∃ C, DownV wj C gd gd s (es.take k) ∧ ∀ b, C b → gd ≤ b ∧ b < wj.heap.size) (fun v _ => m - (intOf v).toNat)
  case atStart => exact ⟨0, by omega, rfl, EW, rfl, _, D0, fun b e => by subst e; exact ⟨Nat.le_refl _, hsz⟩⟩
  case round =>
    clear EW D0 hsz
    obtain ⟨k, hk, rfl, hE, hrd, C, hN, hC⟩ := hrel
    by_cases hlt : k < m
    · have hki : (k : Int) < (m : Int) := by omega
      obtain ⟨x, eb, eo, hx, rfl, h0, h1, h2⟩ := (HE.out.keep (ext_trans E12 hE)).2.at hlt
      obtain ⟨o1, o2, o3, o4, o5, o6⟩ := HO.out x (List.mem_of_getElem? hx)
      obtain ⟨v, hv⟩ : ∃ v : Nat, x.src = (v : Int) := ⟨x.src.toNat, by omega⟩
      obtain ⟨u, hu⟩ : ∃ u : Nat, x.dst = (u : Int) := ⟨x.dst.toNat, by omega⟩
      have hvn : v < n := by omega
      have hun : u < n := by omega
      obtain ⟨pv, v1, v2, v3⟩ := PL.out v hvn
      obtain ⟨pu, u1, u2, u3⟩ := PL.out u hun
      have BPr : Hid (∀ W, Ext w2 W → W.cell? ⟨pb, v, none⟩ = some (.int .i64 (pv : Int)) ∧ W.cell? ⟨pb, u, none⟩ = some (.int .i64 (pu : Int))) := fun W e => by
        have b1 := (HBP.out.ext e).cell (i := v) (map_at optV (d := none) (by rw [HPL.out]; exact hvn))
        have b2 := (HBP.out.ext e).cell (i := u) (map_at optV (d := none) (by rw [HPL.out]; exact hun))
        rw [v1] at b1
        rw [u1] at b2
        exact ⟨b1, b2⟩
      obtain ⟨fv, N1, N2⟩ := hN.each
      obtain ⟨x1, x2, x3, x4⟩ := N1 pv v2
      obtain ⟨fa, fc, hf, hfc⟩ := own_form x3
      rw [hf] at x1 x3
      obtain ⟨la, hla⟩ : ∃ la, (downE s (es.take k) pv).length = la := ⟨_, rfl⟩
      have hal : la ≤ 2000000 := by
        have := down_len s (es.take k) pv
        rw [List.length_take] at this
        omega
      have hvp : partOf s x.src = pv := by rw [hv]; exact v3
      have hup : partOf s x.dst = pu := by rw [hu]; exact u3
      have heP : edgeP s x = ⟨(pv : Int), (pu : Int), x.wt⟩ := by unfold edgeP; rw [hvp, hup]
      have PUSH : Hid (pv ≠ pu → ∀ W2, Ext wr W2 → ∀ g c w6, w6.ownsRow gd 110 3 (.slice (some ⟨g, 0, none⟩) (la + 1) c) (la + 1) (edgesC (downE s (es.take k) pv) ++ edgeC ⟨(pv : Int), (pu : Int), x.wt⟩) → (W2.alloc (.cells #[.int .i64 (pv : Int), .int .i64 (pu : Int), .int .i64 x.wt] 110)).grownBy w6 (Value.slice fa la fc).ownBlock → ((Value.slice fa la fc).ownBlock = some g ∨ W2.heap.size ≤ g) →
          w6.cell? ⟨gd, pv, none⟩ = some (.slice fa la fc) ∧ w6.frozen? ⟨gd, pv, none⟩ = false ∧ DownV (w6.setCell ⟨gd, pv, none⟩ (.slice (some ⟨g, 0, none⟩) (la + 1) c)) (fun b => C b ∨ b = g) gd gd s (es.take (k + 1)) ∧ (∀ b, C b ∨ b = g → gd ≤ b ∧ b < w6.heap.size) ∧ Ext w2 (w6.setCell ⟨gd, pv, none⟩ (.slice (some ⟨g, 0, none⟩) (la + 1) c)) ∧ ∀ b o u', wr.heap.size ≤ b → W2.cell? ⟨b, o, none⟩ = some u' → w6.cell? ⟨b, o, none⟩ = some u') := fun hne W2 E2 g c w6 p1 p2 p3 => by
        subst hla
        obtain ⟨q1, q2, q3, q4⟩ := ListsAt.push (ListsAt.ext hN E2) (by decide) v2 (keep E2 x1) p1 p2 p3
        have e1 := down_updA s (es.take k) x (by rw [hvp, hup]; exact hne)
        rw [heP, hvp, ← take_at hx] at e1
        have hsz6 : wr.heap.size ≤ w6.heap.size := Nat.le_trans E2.size (Nat.le_trans (by simp) p2.size)
        have hgl : ∀ b, C b ∨ b = g → gd ≤ b ∧ b < w6.heap.size := fun b hb => by
          rcases hb with hb | rfl
          · exact ⟨(hC b hb).1, Nat.lt_of_lt_of_le (hC b hb).2 hsz6⟩
          · exact p1.lt b rfl
        refine ⟨q1, q2, ?_, hgl, ?_, fun b o u' hb hc => ?_⟩
        · rw [e1.1, e1.2] at q4
          exact q4
        · refine ext_set (ext_ownB (ext_alloc (ext_trans hE E2) _) p2 (fun b hb => ?_)) (by rw [← HGD.out]; exact Nat.le_refl _) _
          rw [← HGD.out]
          exact (hC b (x4 b (by rw [hf]; exact hb))).1
        · refine (p2.cell (keep (ext_alloc (Below.refl _ _) _) hc) (fun e => ?_))
          have := (hC b (x4 b (by rw [hf]; exact e.symm))).2
          omega
      have OWF : Hid (∀ W2, Ext wr W2 → W2.ownsRow gd 110 3 (.slice fa la fc) la (edgesC (downE s (es.take k) pv))) := fun W2 E2 => by
        subst hla
        exact up_ext x3 E2
      rw [hla] at x1 hfc
      rw [hv] at h0
      rw [hu] at h1
      have hgl : gd ≤ wr.heap.size := by rw [HGD.out]; exact hE.size
      have hvi : (v : Int) < (n : Int) := by omega
      have hui : (u : Int) < (n : Int) := by omega
      have hpi : (pv : Int) < (s.all : Int) := by omega
      have HX := Lib.hid hx
      have HE2 := Lib.hid hE
      have HN := Lib.hid hN
      have HC := Lib.hid hC
      have RD := Lib.hid (roundW_snoc s (es.take k) x)
      rw [← take_at hx, hrd, hvp, hup, Bool.false_or] at RD
      have RT : Hid (pv = pu → 0 < x.wt → roundW s es = true) := fun e hw => by
        unfold K.roundW
        rw [List.any_eq_true]
        exact ⟨x, List.mem_of_getElem? hx, by rw [hvp, hup, e]; simpa using hw⟩
      have SAME : Hid (pv = pu → DownV wr C gd gd s (es.take (k + 1))) := fun e => by
        have q : ∀ p, downE s (es.take (k + 1)) p = downE s (es.take k) p := fun p => by rw [take_at hx]; exact down_same s _ x (by rw [hvp, hup]; exact e) p
        have h := hN
        unfold DownV at h ⊢
        simp only [q]
        exact h
      obtain ⟨n1, n2⟩ := BPr.out _ (hE)
      clear hx hE hN hC N1 N2 x3 x4 hf o1 o2 o3 o4 o5 o6 hv hu hla u1 u2 u3 v1 v2 v3 hvp hup heP hrd hvn hun
      obtain ⟨q, hq⟩ : ∃ q, decide (pv = pu) = q := ⟨_, rfl⟩
      have hqi : ((pv : Int) == (pu : Int)) = q := by
        rw [← hq, Bool.eq_iff_iff, beq_iff_eq, decide_eq_true_eq]
        omega
      have HQ := Lib.hid hq
      clear hq
      go_upto_region 9 with (fail)
      refine wp_gen (fun W2 hW2 => ?_)
      have E2 : Ext wr W2 := by rw [hW2]; go_grown
      have b0 : W2.cell? ⟨wr.heap.size, 0, none⟩ = some (.int .i64 (v : Int)) := by rw [hW2]; go_simp
      have b1 : W2.cell? ⟨wr.heap.size, 1, none⟩ = some (.int .i64 (u : Int)) := by rw [hW2]; go_simp
      have b2 : W2.cell? ⟨wr.heap.size, 2, none⟩ = some (.int .i64 x.wt) := by rw [hW2]; go_simp
      have n1 := keep E2 n1
      have n2 := keep E2 n2
      have x1w := keep E2 x1
      have HE2W := Lib.hid E2
      clear hW2 h0 h1 h2 x1 x2 E2
      cases q with
      | true =>
        have e := of_decide_eq_true HQ.out
        have SM := Lib.hid (SAME.out e)
        have RT2 := Lib.hid (RT.out e)
        rw [e, decide_eq_true rfl, Bool.true_and] at RD
        obtain ⟨z, hz⟩ : ∃ z, decide (0 < x.wt) = z := ⟨_, rfl⟩
        have HZ := Lib.hid hz
        rw [hz] at RD
        clear PUSH SAME RT e x1w OWF
        cases z with
        | true =>
          have hz : (0 : Int) < x.wt := of_decide_eq_true HZ.out
          go_quiet (fail)
          go_wp2
          go_returns
          exact .inl ⟨RT2.out (of_decide_eq_true HZ.out), rfl, ext_trans E12 (ext_trans HE2.out (ext_drewN HE2W.out _))⟩
        | false =>
          have hz : ¬ (0 : Int) < x.wt := of_decide_eq_false HZ.out
          go_quiet (fail)
          go_wp2
          go_roundw
          case rel => exact ⟨k + 1, by omega, by go_num, ext_trans HE2.out (ext_drewN HE2W.out _), RD.out, C, ListsAt.ext SM.out (ext_drewN HE2W.out _), fun b hb => ⟨(HC.out b hb).1, Nat.lt_of_lt_of_le (HC.out b hb).2 (ext_drewN HE2W.out _).size⟩⟩
          case measure => simp [intOf]; omega
      | false =>
        have hne := of_decide_eq_false HQ.out
        have PU := Lib.hid (PUSH.out hne)
        have hrd2 : roundW s (es.take (k + 1)) = false := by rw [RD.out, decide_eq_false hne, Bool.false_and]
        have HRD := Lib.hid hrd2
        clear PUSH SAME RT RD hne hrd2
        go_upto_region 11 with (go_quiet (fail))
        refine wp_gen (fun W3 hW3 => ?_)
        have E23 : Ext W2 W3 := by rw [hW3]; exact ext_drewN (Below.refl _ _) _
        have E3 : Ext wr W3 := ext_trans HE2W.out E23
        have x1w := keep E23 x1w
        have b2 := keep E23 b2
        have b2o := fun o => keep (ext_alloc (Below.refl _ W3) o) b2
        have x1o := fun o => keep (ext_alloc (Below.refl _ W3) o) x1w
        have OW3 := Lib.hid (OWF.out W3.drew (ext_drew E3))
        have PU3 := Lib.hid (PU.out W3.drew (ext_drew E3))
        have hb3 : gd ≤ W3.drew.heap.size := by have := E3.size; show gd ≤ W3.heap.size; omega
        have hbx : wr.heap.size ≤ wr.heap.size := Nat.le_refl _
        have mixed : Tryz.prog.follows .mixedOrders = true := by kernel_rfl
        clear hW3 OWF PU n1 n2 b0 b1 E23 E3 HE2W hqi
        go_region_law (first
          | (refine step_push_edge W3.drew ⟨(pv : Int), (pu : Int), x.wt⟩ gd fa la fc _ OW3.out hal hb3 (by rfl) _ _ (by rfl) (by rfl) (by rfl) ?_; intro g6 c6 w6 p1 p2 p4; obtain ⟨u0, u1, M2, L2, V2, F2⟩ := PU3.out g6 c6 w6 p1 p2 p4; have b26 := F2 _ _ _ hbx (show W3.drew.cell? _ = _ from b2); have M2h := Lib.hid M2; have L2h := Lib.hid L2; have V2h := Lib.hid V2; clear p1 p2 p4 M2 L2 V2 F2)
          | fail)
        all_goals
          go_wp2
          go_roundw
          case rel => exact ⟨k + 1, by omega, by go_num, V2h.out, HRD.out, _, M2h.out, fun b hb => by simpa using L2h.out b hb⟩
          case measure => simp [intOf]; omega
    · obtain ⟨WA, rfl⟩ : ∃ WA, WA = wr := ⟨_, rfl⟩
      have hge : ¬ (k : Int) < (m : Int) := by omega
      have hfull : es.take k = es := List.take_of_length_le (by have := HML.out; omega)
      rw [hfull] at hN hrd
      have HN := Lib.hid hN
      have HC := Lib.hid hC
      have HE2 := Lib.hid hE
      have HRD := Lib.hid hrd
      have MK1 := HMI.out WA s.all hall
      clear hN hC hE hrd hfull
      go_wp2
      refine wp_gen (fun W4 hW4 => ?_)
      obtain ⟨gz, hgz⟩ : ∃ gz, gz = WA.heap.size := ⟨_, rfl⟩
      have E4 : Ext WA W4 := by rw [hW4]; exact ext_alloc (Below.refl _ _) _
      have Z4 : Blk W4 gz 3 ((depthN s es 0).map numV) := by
        rw [hW4, hgz, show (depthN s es 0).map numV = List.replicate s.all (.int .i64 0) by simp [depthN]]
        exact Blk.made WA s.all (.int .i64 0) 3
      have HGZ := Lib.hid hgz
      rw [← hgz]
      have HW1 : Hid (∀ e ∈ es, e.wt.toNat ≤ 1048576) := fun e he => by have := (HO.out e he); omega
      clear hW4 MK1 hgz
      go_loopw [76] (fun v wj => ∃ p : Nat, p ≤ s.all ∧ v = .int .i64 (p : Int) ∧ Ext WA wj ∧ Blk wj gz 3 ((depthN s es p).map numV)) (fun v _ => s.all - (intOf v).toNat)
      case atStart => exact ⟨0, Nat.zero_le _, rfl, E4, Z4⟩
      case round =>
        clear E4 Z4 W4
        obtain ⟨p, hp, rfl, E, Z⟩ := hrel
        by_cases hps : p < s.all
        · have hpi : (p : Int) < (s.all : Int) := by omega
          obtain ⟨fv, N1, N2⟩ := HN.out.each
          obtain ⟨x1, x2, x3, x4⟩ := N1 p hps
          obtain ⟨fa, fc, hf, hfc⟩ := own_form x3
          rw [hf] at x1 x3
          obtain ⟨L, hL⟩ : ∃ L, (downE s es p).length = L := ⟨_, rfl⟩
          have hLm : L ≤ 1048576 := by have := down_len s es p; have := HML.out; omega
          rw [hL] at x1 x3 hfc
          have EA := Lib.hid (own_edges x3 hLm)
          have x1 := keep E x1
          have HLL := Lib.hid hL
          have HEp := Lib.hid E
          have HZ := Lib.hid Z
          clear N1 N2 x2 x3 x4 hf hL E Z
          go_wp2
          go_loopw [84] (fun v wj => ∃ j : Nat, j ≤ L ∧ v = .int .i64 (j : Int) ∧ Ext WA wj ∧ Blk wj gz 3 ((((downE s es p).take j).foldl (depthStep p) (depthN s es p)).map numV)) (fun v _ => L - (intOf v).toNat)
          case atStart => exact ⟨0, Nat.zero_le _, rfl, HEp.out, HZ.out⟩
          case round =>
            clear HZ HEp x1
            obtain ⟨j, hj, rfl, E, Z⟩ := hrel
            by_cases hjl : j < L
            · have hji : (j : Int) < (L : Int) := by omega
              obtain ⟨x, eb, eo, hx, rfl, h0, h1, h2⟩ := (EA.out.keep E).2.at hjl
              obtain ⟨y, hy, hxy, hy1, hy2⟩ := downE_mem (List.mem_of_getElem? hx)
              have oy := HO.out y hy
              obtain ⟨pd, _, hpd, hpd2⟩ := PL.out y.dst.toNat (by omega)
              rw [Int.toNat_of_nonneg oy.2.2.1] at hpd2
              obtain ⟨xw, hxw⟩ : ∃ xw : Nat, y.wt = (xw : Int) := ⟨y.wt.toNat, by omega⟩
              have e1 : x.dst = (pd : Int) := by rw [hxy, ← hpd2]; rfl
              have e2 : x.wt = (xw : Int) := by rw [hxy]; exact hxw
              rw [e1] at h1
              rw [e2] at h2
              have hdi : (pd : Int) < (s.all : Int) := by omega
              obtain ⟨D, hD⟩ : ∃ D, ((downE s es p).take j).foldl (depthStep p) (depthN s es p) = D := ⟨_, rfl⟩
              have hDl : D.length = s.all := by
                rw [← hD]
                have := depth_len s es p
                rw [← this]
                generalize depthN s es p = d0
                generalize (downE s es p).take j = l0
                induction l0 generalizing d0 with
                | nil => rfl
                | cons x0 l0 ihl => rw [List.foldl_cons, ihl]; unfold depthStep; simp
              have hmid := depth_mid HW1.out (p := p) (depth_bound HW1.out p) ((downE s es p).take j) (fun x hx => List.mem_of_mem_take hx)
              rw [hD] at hmid Z
              have NXT : Hid (((downE s es p).take (j + 1)).foldl (depthStep p) (depthN s es p) = D.set p (max (D.getD p 0) (D.getD pd 0 + xw))) := by
                show _ = _
                rw [take_at hx, List.foldl_append, hD]
                show depthStep p D x = _
                unfold depthStep
                rw [e1, e2, Int.toNat_natCast, Int.toNat_natCast]
              obtain ⟨zp, hzp⟩ : ∃ z, D.getD p 0 = z := ⟨_, rfl⟩
              obtain ⟨zd, hzd⟩ : ∃ z, D.getD pd 0 = z := ⟨_, rfl⟩
              have hpne : pd ≠ p := by
                have : (partOf s y.dst) ≠ p := hy2
                rw [hpd2] at this
                exact this
              have hzb : zd + xw ≤ 500000000000000000 := by
                have b1 := hmid.1 pd hpne
                have b2 : p * 1048576 ≤ 100000000000 * 1048576 := Nat.mul_le_mul_right _ (by omega)
                rw [hzd] at b1
                omega
              have qw : IntKind.i64.wrap ((zd : Int) + (xw : Int)) = ((zd + xw : Nat) : Int) := by rw [IntKind.wrap_i64]; omega
              have HZ := Lib.hid Z
              have HEj := Lib.hid E
              have hDp : p < D.length := by omega
              have hDd : pd < D.length := by omega
              have HDl := Lib.hid (And.intro hDp hDd)
              rw [hzp, hzd] at NXT
              have HZP := Lib.hid (And.intro hzp hzd)
              clear hx hy hxy hy1 hy2 oy hxw e1 e2 hpd hpd2 hD hDl hmid Z E hzb hzp hzd hpne hDp hDd
              go_upto_region 22 with (fail)
              refine wp_gen (fun W2 hW2 => ?_)
              have E2 : Ext wr W2 := by rw [hW2]; go_grown
              have b1 : W2.cell? ⟨wr.heap.size, 1, none⟩ = some (.int .i64 (pd : Int)) := by rw [hW2]; go_simp
              have b2 : W2.cell? ⟨wr.heap.size, 2, none⟩ = some (.int .i64 (xw : Int)) := by rw [hW2]; go_simp
              have Z2 := HZ.out.ext E2
              have l1 : W2.cell? ⟨gz, p, none⟩ = some (numV zp) := by rw [← HZP.out.1]; exact Z2.cell (map_at numV HDl.out.1)
              have l2 : W2.cell? ⟨gz, pd, none⟩ = some (numV zd) := by rw [← HZP.out.2]; exact Z2.cell (map_at numV HDl.out.2)
              have l3 : W2.drew.frozen? ⟨gz, p, none⟩ = false := Z2.free p
              have HZ2 := Lib.hid Z2
              have HE2j := Lib.hid (ext_trans HEj.out E2)
              clear hW2 h0 h1 h2 E2 Z2 HZP HDl
              go_still_tail 15, (by kernel_rfl)
              change wpList _ _ _ _ _ W2.drew
              go_wp2
              all_goals
                go_roundw
                case rel =>
                  refine ⟨j + 1, by omega, by go_num, ext_drew (ext_set HE2j.out (by rw [HGZ.out]; exact Nat.le_refl _) _), ?_⟩
                  rw [NXT.out, ← map_set']
                  first
                    | rw [show (if (zp : Int) < (zd : Int) + (xw : Int) then (zd : Int) + (xw : Int) else (zp : Int)) = ((max zp (zd + xw) : Nat) : Int) by split <;> omega]
                    | rw [show max (zp : Int) ((zd : Int) + (xw : Int)) = ((max zp (zd + xw) : Nat) : Int) by omega]
                  exact (HZ2.out.set p _).ext (ext_drew (Below.refl _ _))
                case measure => simp [intOf]; omega
            · obtain rfl : L = j := by omega
              have hjl2 : ¬ (L : Int) < (L : Int) := by omega
              have hful : (downE s es p).take L = downE s es p := List.take_of_length_le (by rw [HLL.out]; exact Nat.le_refl _)
              rw [hful] at Z
              have HZ := Lib.hid Z
              have HEj := Lib.hid E
              clear Z E hful
              go_wp2
              go_roundw
              case rel => exact ⟨p + 1, by omega, by go_num, HEj.out, HZ.out⟩
              case measure => simp [intOf]; omega
        · obtain rfl : p = s.all := by omega
          have hpl2 : ¬ (s.all : Int) < (s.all : Int) := by omega
          obtain ⟨WB, rfl⟩ : ∃ WB, WB = wr := ⟨_, rfl⟩
          have MK2 := HMI.out WB n (by omega)
          obtain ⟨D, hD⟩ : ∃ D, depthN s es s.all = D := ⟨_, rfl⟩
          have hDl : D.length = s.all := by rw [← hD]; exact depth_len s es _
          rw [hD] at Z
          have HDD := Lib.hid hD
          have HZ := Lib.hid Z
          have HEB := Lib.hid E
          clear Z E hD
          go_wp2
          refine wp_gen (fun W5 hW5 => ?_)
          obtain ⟨go, hgo⟩ : ∃ go, go = WB.heap.size := ⟨_, rfl⟩
          have E5 : Ext WB W5 := by rw [hW5]; exact ext_alloc (Below.refl _ _) _
          have O5 : Blk W5 go 3 ((List.replicate n 0).map numV) := by
            rw [hW5, hgo, show (List.replicate n 0).map numV = List.replicate n (.int .i64 0) by simp]
            exact Blk.made WB n (.int .i64 0) 3
          have HGO := Lib.hid hgo
          rw [← hgo]
          clear hW5 MK2 hgo
          go_loopw [110] (fun v wj => ∃ i : Nat, i ≤ n ∧ v = .int .i64 (i : Int) ∧ Ext WB wj ∧ Blk wj go 3 (((List.range i).map (fun v => D.getD (partOf s (Int.ofNat v)) 0) ++ List.replicate (n - i) 0).map numV)) (fun v _ => n - (intOf v).toNat)
          case atStart => exact ⟨0, Nat.zero_le _, rfl, E5, by simpa using O5⟩
          case round =>
            clear E5 O5 W5
            obtain ⟨i, hi, rfl, E, O⟩ := hrel
            by_cases hin : i < n
            · have hii : (i : Int) < (n : Int) := by omega
              obtain ⟨pi, w1, w2, w3⟩ := PL.out i hin
              have l1 : wr.cell? ⟨pb, i, none⟩ = some (optV (s.part.getD i none)) := (HBP.out.ext (ext_trans HE2.out (ext_trans HEB.out E))).cell (map_at optV (by rw [HPL.out]; exact hin))
              rw [w1] at l1
              change wr.cell? ⟨pb, i, none⟩ = some (.int .i64 (pi : Int)) at l1
              have l2 : wr.cell? ⟨gz, pi, none⟩ = some (numV (D.getD pi 0)) := (HZ.out.ext E).cell (map_at numV (by omega))
              have hpii : (pi : Int) < (s.all : Int) := by omega
              have hol : ((List.range i).map (fun v => D.getD (partOf s (Int.ofNat v)) 0) ++ List.replicate (n - i) 0).length = n := by simp; omega
              have l3 : wr.cell? ⟨go, i, none⟩ = some (numV (((List.range i).map (fun v => D.getD (partOf s (Int.ofNat v)) 0) ++ List.replicate (n - i) 0).getD i 0)) := O.cell (map_at numV (by rw [hol]; exact hin))
              have l4 : wr.frozen? ⟨go, i, none⟩ = false := O.free i
              obtain ⟨ov, hov⟩ : ∃ ov, numV (((List.range i).map (fun v => D.getD (partOf s (Int.ofNat v)) 0) ++ List.replicate (n - i) 0).getD i 0) = ov := ⟨_, rfl⟩
              rw [hov] at l3
              obtain ⟨zi, hzi⟩ : ∃ z, D.getD pi 0 = z := ⟨_, rfl⟩
              rw [hzi] at l2
              have NXO : Hid (((List.range i).map (fun v => D.getD (partOf s (Int.ofNat v)) 0) ++ List.replicate (n - i) 0).set i zi = (List.range (i + 1)).map (fun v => D.getD (partOf s (Int.ofNat v)) 0) ++ List.replicate (n - (i + 1)) 0) := by
                show _ = _
                rw [List.set_append_right _ _ (by simp)]
                simp only [List.length_map, List.length_range, Nat.sub_self]
                rw [show n - i = (n - (i + 1)) + 1 by omega, List.replicate_succ, List.set_cons_zero, List.range_succ, List.map_append, List.append_assoc]
                simp only [List.map_cons, List.map_nil, List.singleton_append]
                rw [show partOf s (Int.ofNat i) = pi from w3, hzi]
              have HO2 := Lib.hid O
              have HE3 := Lib.hid E
              clear O E w1 w2 w3 hov hzi hol
              go_wp2
              go_roundw
              case rel =>
                refine ⟨i + 1, by omega, by go_num, ext_set HE3.out (by rw [HGO.out]; exact Nat.le_refl _) _, ?_⟩
                rw [← NXO.out, ← map_set']
                exact HO2.out.set i _
              case measure => simp [intOf]; omega
            · obtain rfl : i = n := by omega
              have hin2 : ¬ (i : Int) < (i : Int) := by omega
              have HO2 := Lib.hid O
              have HE3 := Lib.hid E
              clear O E
              go_wp2
              go_returns
              refine .inr ⟨HRD.out, go, rfl, ?_, ?_, ext_trans E12 (ext_trans HE2.out (ext_trans HEB.out HE3.out))⟩
              · rw [HGO.out]
                exact Nat.le_trans E12.size (Nat.le_trans HE2.out.size HEB.out.size)
              · have := HO2.out
                rw [Nat.sub_self, List.replicate_zero, List.append_nil, ← HDD.out] at this
                simpa using this
end Go.Proofs.YtlalgaioiapjmaaGreatDoor
