/- The law's built: a trie, and the document's; they agree; the walks of kept and of built. -/
import Derived.Test.YthjpfplebbnbpaaGreatCas1
import Derived.Test.YthjpfplebbnbpaaGreatRBld
import Derived.Test.YthjpfplebbnbpaaGreatRCnt
namespace Go.Proofs.YthjpfplebbnbpaaGreat
open Go.ChangeShapes Go.WideShapes Go.ChangeAt Go.RowKit
set_option maxRecDepth 100000 in
theorem c_keptM (x : CaseV) (rows : List (List ByteArray)) (os : List Int) (base g c : Nat) (w : World) (h : CaseAt w x rows os) (ho : w.ownsRow base 3 1 (.slice (some ⟨g, 0, none⟩) (x.on + 1) c) (x.on + 1) ((os ++ [-77]).map intV)) :
    Calls Tryz.prog 23 #[x.v, .slice (some ⟨g, 0, none⟩) x.on c] w fun e w' => e = .returned (.bool true) ∧ Ext w w' := by
  have HO := Lib.hid h.order
  have HL : Hid (os.length = x.on) := h.order.2.1
  obtain ⟨ar0, ra, rn, rc, oa, on, oc⟩ := x
  unfold CaseV.v
  dsimp only at HO HL ho ⊢
  have hon : on ≤ 9223372036854775807 := HO.out.1
  have OW := Lib.hid ho
  have hcc := (cap_of_own ho).1
  clear h ho
  have l1 : (on : Int) + 1 ≤ (c : Int) := by omega
  have l2 : (0 : Int) ≤ (on : Int) + 1 := by omega
  have hon2 : on + 1 ≤ 9223372036854775807 := (own_len OW.out).1
  have w1 : IntKind.i64.wrap ((on : Int) + 1) = (on : Int) + 1 := by rw [IntKind.wrap_i64]; omega
  have z2 : ((on : Int) + 1).toNat = on + 1 := by omega
  have l3 : (on : Int) < (on : Int) + 1 := by omega
  have E0 : Ext w (w.alloc (.cells #[.int .i64 ar0, .slice ra rn rc, .slice oa on oc] 25)) := ext_alloc (Below.refl _ _) _
  have hm := OW.out.cells (g := g) rfl on (.int .i64 (-77)) (by rw [List.map_append, List.getElem?_append_right (by rw [List.length_map, HL.out]; exact Nat.le_refl _), List.length_map, HL.out, Nat.sub_self]; rfl)
  rw [Addr.add_lit, Nat.zero_add] at hm
  have k1 := keep E0 hm
  have CEL : Hid (∀ k y, os[k]? = some y → w.cell? ⟨g, k, none⟩ = some (.int .i64 y)) := fun k y hy => by
    have hk := (List.getElem?_eq_some_iff.1 hy).1
    have := OW.out.cells (g := g) rfl k (.int .i64 y) (by rw [List.map_append, List.getElem?_append_left (by rw [List.length_map]; exact hk), List.getElem?_map, hy]; rfl)
    rwa [Addr.add_lit, Nat.zero_add] at this
  clear hm E0
  go_enter Tryz.func23, Tryz.ntmps23
  go_wp2
  clear k1
  refine wp_gen (fun W1 hW1 => ?_)
  have E1 : Hid (Ext w W1) := by show Ext _ _; rw [hW1]; exact ext_alloc (Below.refl _ _) _
  have x2 : W1.cell? ⟨w.heap.size, 2, none⟩ = some (.slice oa on oc) := by rw [hW1]; go_simp
  clear hW1
  obtain ⟨b0, hb0⟩ : ∃ b0, w.heap.size = b0 := ⟨_, rfl⟩
  rw [hb0] at x2 ⊢
  have X2 := Lib.hid x2
  clear hb0 x2
  go_loopw [5] (fun v wj => ∃ k : Nat, k ≤ on ∧ v = .int .i64 (k : Int) ∧ Ext W1 wj) (fun v _ => on - (intOf v).toNat)
  case atStart => exact ⟨0, Nat.zero_le _, rfl, Below.refl _ _⟩
  case round =>
    obtain ⟨k, hk, rfl, hw⟩ := hrel
    have HW := Lib.hid hw
    by_cases hlt : k < on
    · have hki : (k : Int) < (on : Int) := by omega
      obtain ⟨y, b1, o1, hy, rfl, h1⟩ := ((HO.out.keep E1.out).keep hw).2.at hlt
      have g1 : wr.cell? ⟨b1, o1 + k, none⟩ = some (.int .i64 y) := by simpa [intAt] using h1
      have g2 := keep hw (keep E1.out (CEL.out k y hy))
      have x2 := keep hw X2.out
      have hyy : (y == y) = true := by simp
      clear hy h1 hw
      go_wp2
      go_quiet (fail)
      go_wp2
      go_roundw
      case rel => exact ⟨k + 1, by omega, by go_num, ext_drewN HW.out _⟩
      case measure => simp [intOf]; omega
    · obtain rfl : k = on := by omega
      have hge : ¬ (k : Int) < (k : Int) := by omega
      go_wp2
      go_returns
      exact ⟨rfl, ext_trans E1.out HW.out⟩
/-- Rows as they can be read. -/
theorem RowsAt.items {lo : Nat} {w : World} {a : Option Addr} {n c : Nat} {us : List Value} {rs : List (List ByteArray)} (hown : w.ownsRow lo 46 1 (.slice a n c) n us) (h : RowsAt lo w us rs) (hn : n = rs.length) : ItemsAt w a n rs := by
  refine ⟨(own_len hown).1, hn.symm, fun i r hr => ?_⟩
  have hi := (List.getElem?_eq_some_iff.1 hr).1
  obtain ⟨v, hv⟩ : ∃ v, us[i]? = some v := ⟨_, List.getElem?_eq_getElem (by rw [h.1]; exact hi)⟩
  have ho := h.2 i r v hr hv
  obtain ⟨a7, c7, rfl, _⟩ := own_form ho
  rcases hown.2 with ⟨h1, h0⟩ | ⟨g, c', cur, e, _⟩
  · omega
  · cases e
    have := hown.cells (g := g) rfl i _ hv
    rw [Addr.add_lit] at this
    exact ⟨g, 0, rfl, a7, r.length, c7, by simpa using this, own_strs ho (own_len ho).1⟩
theorem nil_eqT (w : World) : (binOp .eql 28 (.pointer none) (.pointer none)).run Tryz.prog w = .ok (.bool true) w := by kernel_rfl
theorem ptr_eqT (w : World) (b : Nat) : (binOp .eql 28 (.pointer (some ⟨b, 0, none⟩)) (.pointer none)).run Tryz.prog w = .ok (.bool false) w := by kernel_rfl
theorem RTrie.but {S : Nat → Prop} {w w' : World} {lo pt d : Nat} {ways : List (List ByteArray)} (h : RTrie w lo pt d ways) (b : ButS S w w') (h1 : ¬ S pt) (h2 : ∀ k, lo ≤ k → ¬ S k) : RTrie w' lo pt d ways := by
  obtain ⟨a, c, vs, k1, k2, k3⟩ := h.row
  refine ⟨h.lt, b.cell h1 h.c0, (b.frozen h1 (World.block_lt_of_cell? w ⟨pt, 1, none⟩ k1)).trans h.free, a, c, vs, b.cell h1 k1, b.own k2 (fun k e => h2 k (k2.lt k e).1), k3.1, fun i r v hr hv => ?_⟩
  have := k3.2 i r v hr hv
  exact b.own this (fun k e => h2 k (this.lt k e).1)
def BuiltPost (os : List Int) (w : World) (e : Ending) (w' : World) : Prop := Ext w w' ∧
  (e = .returned (.tuple #[.pointer none, .pointer none, .bool true]) ∨
  ∃ pt rt lo ways, e = .returned (.tuple #[.pointer (some ⟨pt, 0, none⟩), .pointer (some ⟨rt, 0, none⟩), .bool true]) ∧ os.length ≤ 64 ∧ TrieV w' pt os.length ways ∧ RTrie w' lo rt os.length ways ∧ lo ≤ w'.heap.size ∧ Ways os.length ways ∧ ways.length ≤ 400)
theorem errno_eq (k : Int) (w : World) : (binOp .eql 61 (.int .i64 k) (.int .i64 k)).run Tryz.prog w = .ok (.bool true) w := by
  simp [binOp, go_sem]
set_option maxRecDepth 100000 in
set_option maxHeartbeats 8000000 in
theorem c_built (x : CaseV) (rows : List (List ByteArray)) (os : List Int) (w : World) (h : CaseAt w x rows os) (hn : x.rn ≤ 400) :
    Calls Tryz.prog 6 #[x.v] w (BuiltPost os w) := by
  have HC := Lib.hid h
  have hrl : rows.length = x.rn := h.rows.1
  have RW : Hid (∀ w1, Ext w w1 → Calls Tryz.prog 18 #[x.v] w1 (RowsPost x rows w1)) := fun w1 h1 => c_rowsL x rows os w1 (HC.out.keep h1) hn
  have OR : Hid (∀ w1, Ext w w1 → Calls Tryz.prog 19 #[x.v] w1 fun e w' => ∃ g c, e = .returned (.slice (some ⟨g, 0, none⟩) x.on c) ∧ w'.ownsRow w1.heap.size 3 1 (.slice (some ⟨g, 0, none⟩) (x.on + 1) c) (x.on + 1) ((os ++ [-77]).map intV) ∧ Ext w1 w') := fun w1 h1 => c_orderL x rows os w1 (HC.out.keep h1)
  have KP : Hid (∀ w1 base g c, Ext w w1 → w1.ownsRow base 3 1 (.slice (some ⟨g, 0, none⟩) (x.on + 1) c) (x.on + 1) ((os ++ [-77]).map intV) → Calls Tryz.prog 23 #[x.v, .slice (some ⟨g, 0, none⟩) x.on c] w1 fun e w' => e = .returned (.bool true) ∧ Ext w1 w') := fun w1 base g c h1 h2 => c_keptM x rows os base g c w1 (HC.out.keep h1) h2
  have HOL : Hid (os.length = x.on) := h.order.2.1
  have HOX := Lib.hid h.order
  obtain ⟨ar0, ra, rn, rc, oa, on, oc⟩ := x
  unfold CaseV.v at RW OR KP ⊢
  dsimp only at RW OR KP HOL HOX hn hrl ⊢
  clear h
  go_enter Tryz.func6, Tryz.ntmps6
  go_upto_region 2 with (go_at_call 18; (with_reducible refine (RW.out _ (ext_alloc (Below.refl _ _) _)).mono ?_); rintro e w1 ⟨E1, p, a1, n1, c1, rfl, hr⟩)
  refine wp_gen (fun W1 hW1 => ?_)
  have e1 : Ext w W1 := by rw [hW1]; exact ext_trans (ext_alloc (Below.refl _ _) _) E1
  have x0 : W1.cell? ⟨w.heap.size, 0, none⟩ = some (.int .i64 ar0) := by rw [hW1]; exact keep E1 (by go_simp)
  have x1 : W1.cell? ⟨w.heap.size, 1, none⟩ = some (.slice ra rn rc) := by rw [hW1]; exact keep E1 (by go_simp)
  have x2 : W1.cell? ⟨w.heap.size, 2, none⟩ = some (.slice oa on oc) := by rw [hW1]; exact keep E1 (by go_simp)
  rw [← hW1] at hr
  have O1 := Lib.hid (OR.out W1 e1)
  have E1h := Lib.hid e1
  have hszw : w.heap.size < W1.heap.size := World.block_lt_of_cell? W1 ⟨w.heap.size, 0, none⟩ x0
  clear hW1 E1
  rcases hr with ⟨_, rfl, rfl, rfl, rfl⟩ | ⟨ar, hare, har64, rfl, pb, lo, B, us, rfl, hpb, rv, hlo, hll, hB, o1, r1⟩
  · have BN : Hid (∀ w2 g c, Calls Tryz.prog 20 #[.pointer none, .slice (some ⟨g, 0, none⟩) on c] w2 fun e w' => e = .returned (.tuple #[.pointer none, .int .i64 1]) ∧ w' = w2) := fun w2 g c => c_buildNil _ _ _ w2
    have eqp := nil_eqT
    have eqw := nil_eqW
    have eqe := errno_eq 1
    go_wp2_with (first
      | (go_at_call 19; (with_reducible refine O1.out.mono ?_); rintro e w2 ⟨g2, c2, rfl, o2, E2⟩)
      | (go_at_call 20; (with_reducible refine (BN.out _ _ _).mono ?_); rintro e w3 ⟨rfl, hw3⟩; obtain rfl := hw3.symm))
    go_ret3
    exact ⟨ext_trans e1 E2, .inl rfl⟩
  · obtain ⟨fr, fl, fc⟩ := rowsM_facts ar rows
    have RV := Lib.hid rv
    have LL := Lib.hid hll
    have FL := Lib.hid fl
    have FR := Lib.hid fr
    have HARE := Lib.hid hare
    have OA1 := Lib.hid o1
    have RA1 := Lib.hid r1
    have HB := Lib.hid hB
    have HPB : Hid (w.heap.size ≤ pb) := by
      have := hpb
      simp at this
      show _ ≤ _
      omega
    obtain ⟨rs, hrs⟩ : ∃ rs, rowsM ar rows = rs := ⟨_, rfl⟩
    rw [hrs] at RV FL FR OA1 RA1 fc ⊢
    obtain ⟨N, hN⟩ : ∃ N, rs.length = N := ⟨_, rfl⟩
    have HN := Lib.hid hN
    rw [hN] at fc OA1 ⊢
    have hN400 : N ≤ 400 := by omega
    obtain ⟨kk, bb, hkb⟩ : ∃ (kk : Int) (bb : Bool), (orderOk ar os ∧ kk = 0 ∧ bb = false) ∨ (¬ orderOk ar os ∧ kk = 2 ∧ bb = true) := by
      by_cases hok : orderOk ar os
      · exact ⟨0, false, .inl ⟨hok, rfl, rfl⟩⟩
      · exact ⟨2, true, .inr ⟨hok, rfl, rfl⟩⟩
    have HKB := Lib.hid hkb
    have BD : Hid (∀ w2 g c, Ext W1 w2 → w2.ownsRow W1.heap.size 3 1 (.slice (some ⟨g, 0, none⟩) (on + 1) c) (on + 1) ((os ++ [-77]).map intV) → Calls Tryz.prog 20 #[.pointer (some ⟨pb, 0, none⟩), .slice (some ⟨g, 0, none⟩) on c] w2 fun e w' => Ext w2 w' ∧ ∃ p2, e = .returned (.tuple #[.pointer p2, .int .i64 kk]) ∧ (∀ w, (binOp .eql 28 (.pointer p2) (.pointer none)).run Tryz.prog w = .ok (.bool bb) w) ∧ ((¬ orderOk ar os ∧ p2 = none) ∨ (orderOk ar os ∧ ∃ pt ways, p2 = some ⟨pt, 0, none⟩ ∧ (∀ w9, ButS (fun b => b < w2.heap.size) w' w9 → TrieV w9 pt os.length ways) ∧ Ways os.length ways ∧ (∀ z, z ∈ ways ↔ ∃ r ∈ rs, projM os r = z) ∧ ways.length ≤ rs.length))) := fun w2 g c h1 h2 => by
      have hc := (cap_of_own h2).1
      have hI : IntsAt w2 (some ⟨g, 0, none⟩) on os := by
        have h3 := (own_ints h2 (own_len h2).1).take (k := on) (Nat.le_succ _)
        rwa [List.take_append_of_le_length (by rw [HOL.out]; exact Nat.le_refl _), List.take_of_length_le (by rw [HOL.out]; exact Nat.le_refl _)] at h3
      refine (c_buildL lo pb ar rs os (some ⟨g, 0, none⟩) on c w2 (RV.out.ext h1) (by rw [HN.out]; omega) FL.out har64 hI (by omega)).mono fun e w' hp => ?_
      rcases hp with ⟨h4, rfl, rfl⟩ | ⟨h4, pt, ways, rfl, h5, h6, h7, h8, h9, h10, h11⟩
      · rcases HKB.out with ⟨k1, rfl, rfl⟩ | ⟨k1, rfl, rfl⟩
        · exact absurd k1 h4
        · exact ⟨Below.refl _ _, none, rfl, nil_eqT, .inl ⟨h4, rfl⟩⟩
      · rcases HKB.out with ⟨k1, rfl, rfl⟩ | ⟨k1, rfl, rfl⟩
        · exact ⟨h8, _, rfl, fun w => ptr_eqT w pt, .inr ⟨h4, pt, ways, rfl, h7, h9, h10, h11⟩⟩
        · exact absurd h4 k1
    have RB : Hid (∀ w2, Ext W1 w2 → Calls Tryz.prog 21 #[.int .i64 (ar : Nat), .slice a1 N c1, .slice oa on oc] w2 fun e w' => Ext w2 w' ∧ ∃ p6, e = .returned (.tuple #[.pointer p6, .int .i64 kk]) ∧ (∀ w, (binOp .eql 29 (.pointer p6) (.pointer none)).run Tryz.prog w = .ok (.bool bb) w) ∧ ((¬ orderOk ar os ∧ p6 = none) ∨ (orderOk ar os ∧ ∃ rt lo, p6 = some ⟨rt, 0, none⟩ ∧ w2.heap.size ≤ rt ∧ RTrie w' lo rt os.length (refWays os rs) ∧ lo ≤ w'.heap.size))) := fun w2 h1 => by
      have IT : ItemsAt w2 a1 N rs := (RowsAt.items OA1.out RA1.out HN.out.symm).keep h1
      refine (c_rbuild ar rs a1 N c1 os oa on oc w2 IT FL.out (by omega) (HOX.out.keep (ext_trans E1h.out h1)) ?_).mono fun e w' hp => ?_
      · by_cases hok : orderOk ar os
        · left
          have := hok.len
          rw [HOL.out] at this
          omega
        · exact .inr hok
      · rcases hp with ⟨h4, rfl, h5⟩ | ⟨h4, rt, lo9, rfl, h5, h6, h7, h8⟩
        · rcases HKB.out with ⟨k1, rfl, rfl⟩ | ⟨k1, rfl, rfl⟩
          · exact absurd k1 h4
          · exact ⟨h5, none, rfl, nil_eqRT, .inl ⟨h4, rfl⟩⟩
        · rcases HKB.out with ⟨k1, rfl, rfl⟩ | ⟨k1, rfl, rfl⟩
          · exact ⟨h8, _, rfl, fun w => ptr_eqRT w rt, .inr ⟨h4, rt, lo9, rfl, h5, h6, h7⟩⟩
          · exact absurd h4 k1
    clear rv hll fr fl RW OR hare hrs hN hkb o1 r1 hB hpb
    have eqw : ∀ w, (binOp .eql 57 (.pointer (some ⟨pb, 0, none⟩)) (.pointer none)).run Tryz.prog w = .ok (.bool false) w := fun w => by kernel_rfl
    have eqe := errno_eq kk
    go_upto_region 3 with (go_at_call 19; (with_reducible refine O1.out.mono ?_); rintro e w2 ⟨g2, c2, rfl, o2, E2⟩)
    have OO2 := Lib.hid o2
    have E2h := Lib.hid E2
    have x02 := keep E2 x0
    have x12 := keep E2 x1
    have x22 := keep E2 x2
    clear x0 x1 x2 o2 E2
    go_upto_region 6 with (go_at_call 20; (with_reducible refine (BD.out _ _ _ E2h.out OO2.out).mono ?_); rintro e w3 ⟨E3, p2, rfl, eq2, hp2⟩)
    have y0 := keep E3 x02
    have y1 := keep E3 x12
    have y2 := keep E3 x22
    have E3h := Lib.hid E3
    have HP2 := Lib.hid hp2
    clear x02 x12 x22 E3 hp2
    have AR : Hid (∀ W, Ext w2 W → Calls Tryz.prog 22 #[.pointer (some ⟨pb, 0, none⟩)] W fun e w' => e = .returned (.int .i64 (ar : Nat)) ∧ w' = W) := fun W hW => c_arity lo pb ar rs W (RV.out.ext (ext_trans E2h.out hW))
    go_cut [10, 11] (fun v10 v11 wc => ∃ p6, v10 = .pointer p6 ∧ v11 = .int .i64 kk ∧ Ext w3 wc ∧ (∀ w, (binOp .eql 29 (.pointer p6) (.pointer none)).run Tryz.prog w = .ok (.bool bb) w) ∧ ((¬ orderOk ar os ∧ p6 = none) ∨ (orderOk ar os ∧ ∃ rt lo, p6 = some ⟨rt, 0, none⟩ ∧ w3.heap.size ≤ rt ∧ RTrie wc lo rt os.length (refWays os rs) ∧ lo ≤ wc.heap.size)))
    case first =>
      go_region_with (first
        | (go_at_call 22; (with_reducible refine (AR.out _ (ext_drew E3h.out)).mono ?_); rintro e w4 ⟨rfl, hw4⟩; obtain rfl := hw4.symm)
        | (go_at_call 21; (with_reducible refine (RB.out _ (ext_trans E2h.out (ext_drew E3h.out))).mono ?_); rintro e w5 ⟨E5, p6, rfl, eq6, hp6⟩))
      all_goals
        go_wp2
        go_meet
        exact ⟨p6, rfl, rfl, ext_trans (ext_drew (Below.refl _ _)) E5, eq6, hp6⟩
    obtain ⟨p6, rfl, rfl, E35, eq6, hp6⟩ := hcut
    obtain ⟨w5, rfl⟩ : ∃ x : World, x = wc := ⟨_, rfl⟩
    have E5h := Lib.hid E35
    have z0 := keep E35 y0
    have z1 := keep E35 y1
    have z2 := keep E35 y2
    have HP6 := Lib.hid hp6
    have E25 : Hid (Ext w2 w5) := ext_trans E3h.out E35
    have LN : Hid (∀ W, Ext w5 W → Calls Tryz.prog 24 #[.pointer (some ⟨pb, 0, none⟩)] W fun e w' => e = .returned (.int .i64 (N : Nat)) ∧ w' = W) := fun W hW => by
      have := c_lenR lo pb ar rs W (RV.out.ext (ext_trans E2h.out (ext_trans E25.out hW)))
      rwa [HN.out] at this
    have KT := Lib.hid (KP.out w5 _ g2 c2 (ext_trans E1h.out (ext_trans E2h.out E25.out)) (up_ext OO2.out E25.out))
    clear hp6 y0 y1 y2 E35 AR
    go_upto_region 8 with (first
      | (go_at_call 23; (with_reducible refine KT.out.mono ?_); rintro e w6 ⟨rfl, E6⟩)
      | (go_at_call 24; (with_reducible refine (LN.out _ E6).mono ?_); rintro e w7 ⟨rfl, hw7⟩; obtain rfl := hw7.symm))
    have E26 : Hid (Ext w2 w6) := ext_trans E25.out E6
    have E56 := Lib.hid E6
    have RV6 := Lib.hid (RV.out.ext (ext_trans E2h.out E26.out))
    have OA6 := Lib.hid (up_ext OA1.out (ext_trans E2h.out E26.out))
    have RA6 := Lib.hid (RA1.out.ext (ext_trans E2h.out E26.out))
    have LL6 : Hid (LowList w6 pb B) := ⟨LL.out.1, fun v b hv hb => by
      obtain ⟨a9, c9, vs9, q1, q2, _⟩ := RV.out.row
      rw [keep (ext_trans E2h.out E26.out) q1] at hv
      cases hv
      exact LL.out.2 _ b q1 hb⟩
    clear E6 z0 z1 z2 LN KT eq2 eq6 eqe eqw
    go_wp2
    go_loopw [13] (fun v wj => ∃ i : Nat, i ≤ N ∧ v = .int .i64 (i : Int) ∧ (∃ rs', RowsV wj lo pb ar rs' ∧ Rising rs' ∧ rs'.length ≤ N) ∧ LowList wj pb B ∧ ButS (fun b => w.heap.size ≤ b ∧ b < B) w6 wj) (fun v _ => N - (intOf v).toNat)
    case atStart => exact ⟨0, Nat.zero_le _, rfl, ⟨rs, RV6.out, FR.out, Nat.le_of_eq HN.out⟩, LL6.out, ButS.refl _ _⟩
    case round =>
      obtain ⟨i, hi, rfl, ⟨rs', rv', ri', rl'⟩, ll', bt⟩ := hrel
      have BT := Lib.hid bt
      have LLi := Lib.hid ll'
      by_cases hlt : i < N
      · have hlti : (i : Int) < (N : Int) := by omega
        have itw : ItemsAt wr a1 N rs := RowsAt.items (lo := B) (bt.own OA6.out (fun b e h => by have := (OA6.out.lt b e).1; omega)) ⟨RA6.out.1, fun j r v hr hv => by
          have ho := RA6.out.2 j r v hr hv
          exact bt.own ho (fun b e h => by have := (ho.lt b e).1; omega)⟩ HN.out.symm
        obtain ⟨r, b1, o1, hx, rfl, a5, n5, c5, g1, g2'⟩ := itw.2.at hlt
        have g1 : wr.cell? ⟨b1, o1 + i, none⟩ = some (.slice a5 n5 c5) := by simpa using g1
        have DR := Lib.hid (c_dropR lo pb ar rs' r a5 n5 c5 wr rv' ri' g2' (FL.out r (List.mem_of_getElem? hx)) (by omega))
        have NX : Hid (Rising (dropRow rs' r) ∧ (dropRow rs' r).length ≤ N) := ⟨dropRow_rising ri' r, Nat.le_trans (dropRow_len rs' r) rl'⟩
        have LOW : Hid (w.heap.size ≤ pb ∧ w.heap.size ≤ lo) := ⟨HPB.out, by have := rv'.lt; have := HPB.out; omega⟩
        clear itw hx g2' rv' ri' rl' ll' bt
        go_wp2_with (go_at_call 25; (with_reducible refine DR.out.mono ?_); rintro e w9 ⟨⟨b9, k9, rfl⟩, q9, s9, l9⟩)
        have l8 := l9 B LLi.out
        have b8 := (s9.both l8.1).mono (T := fun b => w.heap.size ≤ b ∧ b < B) (fun b _ h => ⟨by
          rcases h.1 with h1 | h1
          · rw [h1]; exact LOW.out.1
          · exact Nat.le_trans LOW.out.2 h1, h.2⟩)
        have B8 := Lib.hid b8
        have L8 := Lib.hid l8.2
        have Q9 := Lib.hid q9
        clear s9 l9 l8 b8 q9
        go_roundw
        case rel => exact ⟨i + 1, by omega, by go_num, ⟨_, Q9.out, NX.out.1, NX.out.2⟩, L8.out, BT.out.trans B8.out⟩
        case measure => simp [intOf]; omega
      · obtain rfl : i = N := by omega
        have hge : ¬ (i : Int) < (i : Int) := by omega
        have bt2 : ButS (fun b => w.heap.size ≤ b ∧ b < w2.heap.size) w6 wr := bt.mono (fun b _ h => ⟨h.1, by have := HB.out; have := E2h.out.size; omega⟩)
        have BT2 := Lib.hid bt2
        have OOR : Hid (wr.ownsRow W1.heap.size 3 1 (.slice (some ⟨g2, 0, none⟩) (on + 1) c2) (on + 1) ((os ++ [-77]).map intV)) := bt.own (up_ext OO2.out E26.out) (fun b e h => by have := (OO2.out.lt b e).1; have := HB.out; omega)
        clear rv' ri' rl' ll' bt bt2
        have hon : on ≤ 9223372036854775807 := HOX.out.1
        go_wp2
        go_loopw [14] (fun v wj => ∃ k : Nat, k ≤ on ∧ v = .int .i64 (k : Int) ∧ (∃ xs, wj.ownsRow W1.heap.size 3 1 (.slice (some ⟨g2, 0, none⟩) (on + 1) c2) (on + 1) xs) ∧ ButS (fun b => w.heap.size ≤ b ∧ b < w2.heap.size) w6 wj) (fun v _ => on - (intOf v).toNat)
        case atStart => exact ⟨0, Nat.zero_le _, rfl, ⟨_, OOR.out⟩, BT2.out⟩
        case round =>
          obtain ⟨k, hk, rfl, ⟨xs, ho⟩, bt⟩ := hrel
          have BT3 := Lib.hid bt
          have HO3 := Lib.hid ho
          by_cases hlk : k < on
          · have hki : (k : Int) < (on : Int) := by omega
            obtain ⟨u, hu⟩ : ∃ u, xs[k]? = some u := ⟨_, List.getElem?_eq_getElem (by have := ho.1; omega)⟩
            have ck := ho.cells (g := g2) rfl k u hu
            rw [Addr.add_lit, Nat.zero_add] at ck
            have fk : wr.frozen? ⟨g2, k, none⟩ = false := ho.frozenAt _
            have NX : Hid (ButS (fun b => w.heap.size ≤ b ∧ b < w2.heap.size) w6 (wr.setCell ⟨g2, k, none⟩ (.int .i64 0)) ∧ ∃ xs, (wr.setCell ⟨g2, k, none⟩ (.int .i64 0)).ownsRow W1.heap.size 3 1 (.slice (some ⟨g2, 0, none⟩) (on + 1) c2) (on + 1) xs) := by
              have h5 := OO2.out.lt g2 rfl
              exact ⟨bt.set (.inl ⟨by omega, h5.2⟩) _ _, _, (ho.stored k (.int .i64 0)).1⟩
            clear ho bt hu
            go_wp2
            go_roundw
            case rel => exact ⟨k + 1, by omega, by go_num, NX.out.2, NX.out.1⟩
            case measure => simp [intOf]; omega
          · obtain rfl : k = on := by omega
            have hge : ¬ (k : Int) < (k : Int) := by omega
            have EF : Hid (Ext w wr) := ext_of_but (ext_trans E1h.out (ext_trans E2h.out E26.out)) bt (fun b hb h => by omega)
            have FIN : Hid (BuiltPost os w (.returned (.tuple #[.pointer p2, .pointer p6, .bool true])) wr) := by
              refine ⟨EF.out, ?_⟩
              rcases HP2.out with ⟨_, rfl⟩ | ⟨hok, pt, ways, rfl, h7, h9, h10, h11⟩
              · rcases HP6.out with ⟨_, rfl⟩ | ⟨hok2, _⟩
                · exact .inl rfl
                · contradiction
              · rcases HP6.out with ⟨hn2, _⟩ | ⟨_, rt, lo9, rfl, q1, q2, q3⟩
                · exact absurd hok hn2
                · have ew : refWays os rs = ways := Rising.same (refWays_facts os rs).1 h9.rising (fun z => by rw [(refWays_facts os rs).2.1, h10])
                  have b36 : ButS (fun b => b < w2.heap.size) w3 wr := ((ButS.refl _ w3).ext (ext_trans E5h.out E56.out)).trans (bt.mono fun b _ h => h.2)
                  have hsz := E3h.out.size
                  have q2' : RTrie w5 lo9 rt os.length ways := by rw [← ew]; exact q2
                  have hq1 : w2.heap.size ≤ rt := by
                    omega
                  have hl9 := q2.lt
                  refine .inr ⟨pt, rt, lo9, ways, rfl, ?_, h7 _ b36, (q2'.ext E56.out).but bt (fun h => by have h1 : rt < w2.heap.size := h.2; omega) (fun k hk h => by have h1 : k < w2.heap.size := h.2; omega), ?_, h9, ?_⟩
                  · have := hok.len
                    omega
                  · have := bt.size
                    have := E56.out.size
                    omega
                  · have := HN.out
                    omega
            clear bt ho
            go_wp2
            go_ret3
            exact FIN.out
end Go.Proofs.YthjpfplebbnbpaaGreat
