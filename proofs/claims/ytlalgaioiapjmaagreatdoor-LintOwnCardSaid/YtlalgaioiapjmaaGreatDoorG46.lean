/- The walk of the law LintOwn. -/
import Derived.Test.YtlalgaioiapjmaaGreatDoorG45
namespace Go.Proofs.YtlalgaioiapjmaaGreatDoor
open Go.ChangeShapes Go.WideShapes Go.ChangeAt Go.RowKit
open K (Rule Finding)
def fA : Finding := ⟨-2, 0, 0, ⟨#[]⟩⟩
def fB : Finding := ⟨-3, 0, 0, ⟨#[]⟩⟩
def tM : ByteArray := ⟨#[60, 109, 111, 114, 101, 62]⟩
def tO : ByteArray := ⟨#[60, 111, 116, 104, 101, 114, 115, 62]⟩
abbrev rF (v : Value) (n : Nat) (xs : List Value) : ORow := ⟨37, 4, v, n, xs⟩
abbrev rS (v : Value) (n : Nat) (xs : List Value) : ORow := ⟨9, 1, v, n, xs⟩
theorem rowF_at {w : World} {base n c N j : Nat} {a : Option Addr} {xa : List Value} {f : Finding} (h : w.ownsRow base 37 4 (.slice a (n + N) c) (n + N) (xa ++ flatF (List.replicate N f))) (hl : xa.length = n * 4) (hj : j < N) : ∃ g, a = some ⟨g, 0, none⟩ ∧ w.cell? ⟨g, (n + j) * 4, none⟩ = some (.int .i64 f.kind) := by
  obtain ⟨g, c', e, _⟩ := own_formS h (by omega)
  injection e with e1 e2 e3
  subst e1
  have e5 : (List.replicate N f)[j]? = some f := by rw [List.getElem?_replicate, if_pos hj]
  have e4 := flatF_get (List.replicate N f) j 0 f e5 (by omega)
  have := h.cells (g := g) rfl ((n + j) * 4) (.int .i64 f.kind) (by rw [List.getElem?_append_right (by omega), hl, show (n + j) * 4 - n * 4 = j * 4 + 0 by omega, e4]; rfl)
  rw [Addr.add_lit, Nat.zero_add] at this
  exact ⟨g, rfl, this⟩
theorem rowS_at {w : World} {base n c N j : Nat} {a : Option Addr} {xs : List Value} {u : Value} (h : w.ownsRow base 9 1 (.slice a (n + N) c) (n + N) (xs ++ List.replicate N u)) (hl : xs.length = n * 1) (hj : j < N) : ∃ g, a = some ⟨g, 0, none⟩ ∧ w.cell? ⟨g, n + j, none⟩ = some u := by
  obtain ⟨g, c', e, _⟩ := own_formS h (by omega)
  injection e with e1 e2 e3
  subst e1
  have := h.cells (g := g) rfl (n + j) u (by rw [List.getElem?_append_right (by omega), show n + j - xs.length = j by omega, List.getElem?_replicate, if_pos hj])
  rw [Addr.add_lit, Nat.zero_add] at this
  exact ⟨g, rfl, this⟩
theorem fnd_at {w : World} {base n c : Nat} {a : Option Addr} {F : List Finding} (h : w.ownsRow base 37 4 (.slice a n c) n (flatF F)) {m : Nat} {x : Finding} (hx : F[m]? = some x) : ∃ g, a = some ⟨g, 0, none⟩ ∧ w.cell? ⟨g, m * 4, none⟩ = some (.int .i64 x.kind) ∧ w.cell? ⟨g, m * 4 + 1, none⟩ = some (.int .i64 (x.rule : Nat)) ∧ w.cell? ⟨g, m * 4 + 2, none⟩ = some (.int .i64 (x.literal : Nat)) ∧ w.cell? ⟨g, m * 4 + 3, none⟩ = some (.string x.name) := by
  have hl := h.1
  rw [flatF_len] at hl
  have hi := (List.getElem?_eq_some_iff.1 hx).1
  obtain ⟨g, c', e, _⟩ := own_formS h (by omega)
  injection e with e1 e2 e3
  subst e1
  have X : ∀ j u, (valsF x)[j]? = some u → j < 4 → w.cell? ⟨g, m * 4 + j, none⟩ = some u := fun j u hu hj => by
    have := h.cells (g := g) rfl (m * 4 + j) u (by rw [flatF_get F m j x hx hj]; exact hu)
    rw [Addr.add_lit, Nat.zero_add] at this
    exact this
  exact ⟨g, rfl, X 0 _ rfl (by omega), X 1 _ rfl (by omega), X 2 _ rfl (by omega), X 3 _ rfl (by omega)⟩
set_option maxRecDepth 100000 in
set_option maxHeartbeats 40000000 in
theorem c_law (rs : List Rule) (given wanted : List ByteArray) (a : Option Addr) (n c : Nat) (ga : Option Addr) (gn gc : Nat) (wa : Option Addr) (wn wc : Nat) (w : World) (h : RulesAt w a n rs) (hn : n ≤ 2199023255488) (hg : K.StrsAt w ga gn given) (hgc : capOk ga gn gc) (hgn : gn ≤ 8796093021952) (hw : K.StrsAt w wa wn wanted) (hwc : capOk wa wn wc) (hwn : wn ≤ 8796093021952) (hws : ∀ s ∈ wanted, okS s) (hT : TabOk w) :
    Calls Tryz.prog 3 #[.agg #[.slice a n c], .slice ga gn gc, .slice wa wn wc] w fun e w' => e = .returned (.bool true) ∧ Ext w w' := by
  obtain ⟨er, her⟩ : ∃ er, strataE rs = er := ⟨_, rfl⟩
  obtain ⟨la, hla⟩ : ∃ la, lenF rs given wanted = la := ⟨_, rfl⟩
  obtain ⟨ss, hss⟩ : ∃ ss, txtF rs given = ss := ⟨_, rfl⟩
  obtain ⟨lc, hlc⟩ : ∃ lc, ss.length = lc := ⟨_, rfl⟩
  have la1 : la ≤ 46080000 := by rw [← hla]; exact lenF_few _ _
  have lc1 : lc ≤ 512 := by rw [← hlc, ← hss]; exact txtF_few _
  have ER : Hid (er ≠ 0 → la = 0) := fun hne => by
    rw [← hla]
    unfold lenF
    rw [if_neg (by rw [her]; exact hne)]
  obtain rfl : rs.length = n := h.2.1
  obtain rfl : given.length = gn := hg.2.1
  obtain rfl : wanted.length = wn := hw.2.1
  have CK : Hid (∀ W, Ext w W → Calls Tryz.prog 4 #[] W fun e w' => e = .returned (.bool true) ∧ Ext W w') := fun W e => c_known W (hT.ext e)
  have CC : Hid (∀ W, Ext w W → Calls Tryz.prog 5 #[.agg #[.slice a rs.length c]] W fun e w' => ∃ g c', e = .returned (.agg #[.slice (some ⟨g, 0, none⟩) rs.length c']) ∧ OwnPr w' W.heap.size rs g c' ∧ Ext W w') := fun W e => c_copied rs a _ c W (h.keep e) hn
  have C1 : Hid (∀ W, Ext w W → Calls Tryz.prog 6 #[.slice ga given.length gc] W fun e w' => ∃ g c', e = .returned (.slice (some ⟨g, 0, none⟩) given.length c') ∧ OwnS w' W.heap.size given g c' ∧ Ext W w') := fun W e => c_lent given ga _ gc W (hg.keep e) hgc hgn
  have C2 : Hid (∀ W, Ext w W → Calls Tryz.prog 6 #[.slice wa wanted.length wc] W fun e w' => ∃ g c', e = .returned (.slice (some ⟨g, 0, none⟩) wanted.length c') ∧ OwnS w' W.heap.size wanted g c' ∧ Ext W w') := fun W e => c_lent wanted wa _ wc W (hw.keep e) hwc hwn
  go_enter Tryz.func3, Tryz.ntmps3
  go_upto_region 1 with (fail)
  refine wp_gen (fun W hW => ?_)
  have E0 : Ext w W := by rw [hW]; exact ext_alloc (Below.refl _ _) _
  have p0 : W.cell? ⟨w.heap.size, 0, none⟩ = some (.slice a rs.length c) := by rw [hW]; go_simp
  obtain ⟨pb, hpb⟩ : ∃ pb, w.heap.size = pb := ⟨_, rfl⟩
  rw [hpb] at p0 ⊢
  clear hW hpb
  go_upto_region 3 with (go_at_call 4; (with_reducible refine (CK.out _ E0).mono ?_); rintro e w1 ⟨rfl, E1⟩)
  have p1 := keep E1 p0
  have E1 := ext_trans E0 E1
  clear CK E0 p0
  go_upto_region 4 with (first | (go_at_call 5; (with_reducible refine (CC.out _ E1).mono ?_); rintro e w2 ⟨gi, ci, rfl, O2, E2⟩; have F2 := ext_trans E1 E2) | (go_at_call 6; (with_reducible refine (C1.out _ F2).mono ?_); rintro e w3 ⟨gg, cg, rfl, O3, E3⟩; have F3 := ext_trans F2 E3) | (go_at_call 6; (with_reducible refine (C2.out _ F3).mono ?_); rintro e w4 ⟨gw, cw, rfl, O4, E4⟩; have F4 := ext_trans F3 E4) | fail)
  refine wp_gen (fun W3 hW3 => ?_)
  have E5 : Ext w4 W3 := by rw [hW3]; exact ext_alloc (Below.refl _ _) _
  have x7 : W3.cell? ⟨w4.heap.size, 0, none⟩ = some (.slice (some ⟨gi, 0, none⟩) rs.length ci) := by rw [hW3]; go_simp
  have x3 : W3.cell? ⟨pb, 0, none⟩ = some (.slice a rs.length c) := keep E5 (keep E4 (keep E3 (keep E2 p1)))
  have FW : Ext w W3 := ext_trans F4 E5
  have OP : OwnPr W3 w1.heap.size rs gi ci := O2.ext (ext_trans E3 (ext_trans E4 E5))
  have OG : OwnS W3 w2.heap.size given gg cg := O3.ext (ext_trans E4 E5)
  have OT : OwnS W3 w3.heap.size wanted gw cw := O4.ext E5
  have RI : RulesAt W3 (some ⟨gi, 0, none⟩) rs.length rs := OP.rules h
  have SG : K.StrsAt W3 (some ⟨gg, 0, none⟩) given.length given := OG.strs (by omega)
  have SW : K.StrsAt W3 (some ⟨gw, 0, none⟩) wanted.length wanted := OT.strs (by omega)
  have TB : TabOk W3 := hT.ext FW
  have LN : Hid (∀ W, Ext W3 W → Calls Tryz.prog 7 #[.agg #[.slice (some ⟨gi, 0, none⟩) rs.length ci], .slice (some ⟨gg, 0, none⟩) given.length cg, .slice (some ⟨gw, 0, none⟩) wanted.length cw] W (LoP er la W)) := fun W e => (c_Lint rs given wanted _ _ ci _ _ cg _ _ cw W (RI.keep e) (by have := OP.cap; omega) (SG.keep e) (SW.keep e) hws (TB.ext e)).mono fun e' w' h => by
    have := lo_of h
    rw [her, hla] at this
    exact this
  have LV : Hid (∀ W, Ext W3 W → Calls Tryz.prog 8 #[.agg #[.slice (some ⟨gi, 0, none⟩) rs.length ci], .slice (some ⟨gg, 0, none⟩) given.length cg] W (VoP er lc ss W)) := fun W e => (c_LiveF rs given _ _ ci _ _ cg W (RI.keep e) (SG.keep e)).mono fun e' w' h => by
    have := vo_of h
    rw [her, hss, hlc] at this
    exact this
  have ST : Hid (∀ W, Ext W3 W → Calls Tryz.prog 11 #[.agg #[.slice (some ⟨gi, 0, none⟩) rs.length ci], .agg #[.slice a rs.length c]] W fun e w' => e = .returned (.bool true) ∧ Ext W w') := fun W e => c_stays rs gi ci _ a _ c W (OP.ext e) (h.keep (ext_trans FW e))
  have KG : Hid (∀ W, Ext W3 W → Calls Tryz.prog 12 #[.slice (some ⟨gg, 0, none⟩) given.length cg, .slice ga given.length gc] W fun e w' => e = .returned (.bool true) ∧ Ext W w') := fun W e => c_kept given gg cg ga _ gc _ W (OG.ext e) (hg.keep (ext_trans FW e))
  have KW : Hid (∀ W, Ext W3 W → Calls Tryz.prog 12 #[.slice (some ⟨gw, 0, none⟩) wanted.length cw, .slice wa wanted.length wc] W fun e w' => e = .returned (.bool true) ∧ Ext W w') := fun W e => c_kept wanted gw cw wa _ wc _ W (OT.ext e) (hw.keep (ext_trans FW e))
  have HF := Lib.hid FW
  obtain ⟨qb, hqb⟩ : ∃ qb, w4.heap.size = qb := ⟨_, rfl⟩
  rw [hqb] at x7 ⊢
  have LS : Hid (ss.length = lc) := hlc
  clear hW3 hqb E5 FW OP OG OT RI SG SW TB O2 O3 O4 E1 E2 E3 E4 F2 F3 F4 p1 CC C1 C2 h hn hg hgc hgn hw hwc hwn hws hT her hla hss hlc
  go_upto_region 5 with (go_at_call 7; (with_reducible refine (LN.out _ (Below.refl _ _)).mono ?_); rintro e w5 ⟨aa, ca, Fa, fa, rfl, E5, own5⟩)
  have S5 := (RowsS.start W3).add E5 own5
  have y7 := keep S5.ext x7
  clear E5 own5
  go_upto_region 6 with (go_at_call 7; (with_reducible refine (LN.out _ S5.ext).mono ?_); rintro e w6 ⟨ab, cb, Fb, fb, rfl, E6, own6⟩)
  have S6 := S5.add E6 own6
  have y7 := keep S6.ext x7
  clear E6 own6 S5
  go_upto_region 7 with (go_at_call 8; (with_reducible refine (LV.out _ S6.ext).mono ?_); rintro e w7 ⟨ac, cc, rfl, E7, own7⟩)
  have S7 := S6.add E7 own7
  have y7 := keep S7.ext x7
  clear E7 own7 S6
  go_upto_region 8 with (go_at_call 8; (with_reducible refine (LV.out _ S7.ext).mono ?_); rintro e w8 ⟨ad, cd, rfl, E8, own8⟩)
  have HS8 := Lib.hid (S7.add E8 own8)
  clear E8 own8 S7 y7 LN LV
  have HX : Hid (∀ W, Ext W3 W → W.cell? ⟨qb, 0, none⟩ = some (.slice (some ⟨gi, 0, none⟩) rs.length ci) ∧ W.cell? ⟨pb, 0, none⟩ = some (.slice a rs.length c)) := fun W e => ⟨keep e x7, keep e x3⟩
  clear x7 x3
  obtain ⟨bz, hbz⟩ : ∃ b, (er != 0) = b := ⟨_, rfl⟩
  cases bz with
  | true =>
    have hz : la = 0 := ER.out (by simpa using hbz)
    subst hz
    go_wp2_with (go_at_call 9; (with_reducible refine (c_num30 _ _).mono ?_); rintro e w9 ⟨rfl, rfl⟩)
    go_returns
    exact ⟨rfl, ext_trans HF.out HS8.out.ext⟩
  | false =>
    go_upto_region 10 with (go_at_call 9; (with_reducible refine (c_num30 _ _).mono ?_); rintro e w9 ⟨rfl, rfl⟩)
    have OB := Lib.hid (HS8.out.at (i := 2) rfl)
    have OD := Lib.hid (HS8.out.at (i := 0) rfl)
    dsimp only at OB OD
    go_upto_region 11 with (at_builtin; refine wpList_copy_fnd w9 W3.heap.size ab la cb Fb OB.out (by omega) rfl _ _ rfl rfl rfl ?_; intro ax cx w10 own10 E10)
    have S10 := HS8.out.add E10 own10
    have OD := Lib.hid (S10.at (i := 1) rfl)
    clear E10 own10 HS8 OB
    go_upto_region 12 with (at_builtin; refine wpList_copy_str w10 W3.heap.size ad lc cd ss OD.out (by omega) rfl _ _ rfl rfl rfl ?_; intro al cl w11 own11 E11)
    obtain ⟨ls, hls⟩ : ∃ ls, ss.map Value.string = ls := ⟨_, rfl⟩
    have HSS : Hid (ss.map Value.string = ls) := hls
    have HS := S10.add E11 own11
    rw [hls] at HS
    have HS : Hid (RowsS W3 [rS (.slice al lc cl) lc ls, rF (.slice ax la cx) la (flatF Fb), rS (.slice ad lc cd) lc ls, rS (.slice ac lc cc) lc ls, rF (.slice ab la cb) la (flatF Fb), rF (.slice aa la ca) la (flatF Fa)] w11) := HS
    clear E11 own11 S10 OD hls
    go_upto_block 0 with (fail)
    go_wp2
    go_loopw [20] (fun v wr => ∃ k xa, k ≤ la ∧ v = .int .i64 (k : Int) ∧ RowsS W3 [rS (.slice al lc cl) lc ls, rF (.slice ax la cx) la (flatF Fb), rS (.slice ad lc cd) lc ls, rS (.slice ac lc cc) lc ls, rF (.slice ab la cb) la (flatF Fb), rF (.slice aa la ca) la xa] wr) (fun v _ => la - (intOf v).toNat)
    case atStart => exact ⟨0, _, Nat.zero_le _, rfl, HS.out⟩
    case round =>
      clear HS
      obtain ⟨k, xa, hk, rfl, hs⟩ := hrel
      have HS := Lib.hid hs
      clear hs
      by_cases hlt : k < la
      · have hki : (k : Int) < (la : Int) := by omega
        have oA := HS.out.at (i := 5) rfl
        dsimp only at oA
        obtain ⟨g, c', e1, hcap⟩ := own_formS oA (by omega)
        injection e1 with e1 e2 e3
        subst e1 e3
        have X : ∀ j, j < 4 → ∃ u, wr.cell? ⟨g, k * 4 + j, none⟩ = some u := fun j hj => ⟨_, HS.out.cell (i := 5) rfl (List.getElem?_eq_getElem (by have := oA.1; omega))⟩
        obtain ⟨u0, y0⟩ := X 0 (by omega)
        obtain ⟨u1, y1⟩ := X 1 (by omega)
        obtain ⟨u2, y2⟩ := X 2 (by omega)
        obtain ⟨u3, y3⟩ := X 3 (by omega)
        rw [Nat.add_zero] at y0
        have yf : ∀ j, wr.frozen? ⟨g, j, none⟩ = false := fun j => own_free oA
        have HLT := Lib.hid hlt
        clear oA X hlt
        go_wp2
        go_roundw
        case rel => exact ⟨k + 1, _, HLT.out, by go_num, (((HS.out.set (i := 5) rfl _ _).set (i := 5) rfl _ _).set (i := 5) rfl _ _).set (i := 5) rfl _ _⟩
        case measure => have := HLT.out; simp [intOf]; omega
      · have hki : ¬ (k : Int) < (la : Int) := by omega
        obtain rfl : k = la := by omega
        clear hlt hk
        have XL : Hid (xa.length = k * 4) := (HS.out.at (i := 5) rfl).1
        go_wp2
        go_loopw [10, 21] (fun va v wr => ∃ i aa ca xa, i ≤ 30 ∧ va = .slice aa (k + i) ca ∧ v = .int .i64 (i : Int) ∧ xa.length = k * 4 ∧ RowsS W3 [rS (.slice al lc cl) lc ls, rF (.slice ax k cx) k (flatF Fb), rS (.slice ad lc cd) lc ls, rS (.slice ac lc cc) lc ls, rF (.slice ab k cb) k (flatF Fb), rF (.slice aa (k + i) ca) (k + i) (xa ++ flatF (List.replicate i fA))] wr) (fun _ v _ => 30 - (intOf v).toNat)
        case atStart => exact ⟨0, aa, ca, xa, Nat.zero_le _, rfl, rfl, XL.out, by simpa [flatF] using HS.out⟩
        case round =>
          clear HS XL
          obtain ⟨i, aa, ca, xa, hi, rfl, rfl, xl, hs⟩ := hrel
          have HS := Lib.hid hs
          have XL := Lib.hid xl
          clear hs xl
          by_cases hlt : i < 30
          · have hki : (i : Int) < 30 := by omega
            have OA := Lib.hid (HS.out.at (i := 5) rfl)
            dsimp only at OA
            have hsz := HS.out.ext.size
            have HLT := Lib.hid hlt
            clear hlt
            go_wp2_with (at_builtin; refine wpList_push_fnd wr fA W3.heap.size aa (k + i) ca _ OA.out (by omega) hsz rfl _ _ rfl rfl rfl ?_; intro g6 c6 w6 p1 p2 p3; have S6 := Lib.hid (HS.out.push (i := 5) rfl p1 p2 (p3.imp id Nat.le_of_lt)); clear p1 p2 p3)
            go_roundw
            case rel =>
              refine ⟨i + 1, _, _, xa, HLT.out, rfl, by go_num, XL.out, ?_⟩
              rw [List.replicate_succ', flatF_snoc, ← List.append_assoc]
              exact S6.out
            case measure => have := HLT.out; simp [intOf]; omega
          · have hki : ¬ (i : Int) < 30 := by omega
            obtain rfl : i = 30 := by omega
            clear hlt hi
            have XA := XL
            clear XL
            go_wp2
            go_loopw [22] (fun v wr => ∃ i xc, i ≤ lc ∧ v = .int .i64 (i : Int) ∧ RowsS W3 [rS (.slice al lc cl) lc ls, rF (.slice ax k cx) k (flatF Fb), rS (.slice ad lc cd) lc ls, rS (.slice ac lc cc) lc xc, rF (.slice ab k cb) k (flatF Fb), rF (.slice aa (k + 30) ca) (k + 30) (xa ++ flatF (List.replicate 30 fA))] wr) (fun v _ => lc - (intOf v).toNat)
            case atStart => exact ⟨0, _, Nat.zero_le _, rfl, HS.out⟩
            case round =>
              clear HS
              obtain ⟨i, xc, hi, rfl, hs⟩ := hrel
              have HS := Lib.hid hs
              clear hs
              by_cases hlt : i < lc
              · have hki : (i : Int) < (lc : Int) := by omega
                have oC := HS.out.at (i := 3) rfl
                dsimp only at oC
                obtain ⟨g, c', e1, hcap⟩ := own_formS oC (by omega)
                injection e1 with e1 e2 e3
                subst e1 e3
                have y0 : wr.cell? ⟨g, i, none⟩ = some (xc[i]'(by have := oC.1; omega)) := HS.out.cell (i := 3) rfl (List.getElem?_eq_getElem (by have := oC.1; omega))
                obtain ⟨u0, hu0⟩ : ∃ u0, u0 = (xc[i]'(by have := oC.1; omega)) := ⟨_, rfl⟩
                rw [← hu0] at y0
                have yf : ∀ j, wr.frozen? ⟨g, j, none⟩ = false := fun j => own_free oC
                have HLT := Lib.hid hlt
                clear oC hlt hu0
                go_wp2
                go_roundw
                case rel => exact ⟨i + 1, _, HLT.out, by go_num, HS.out.set (i := 3) rfl _ _⟩
                case measure => have := HLT.out; simp [intOf]; omega
              · have hki : ¬ (i : Int) < (lc : Int) := by omega
                obtain rfl : i = lc := by omega
                clear hlt hi
                have XL : Hid (xc.length = i * 1) := (HS.out.at (i := 3) rfl).1
                clear hki
                go_wp2
                go_loopw [14, 23] (fun va v wr => ∃ j ac cc xc, j ≤ 30 ∧ va = .slice ac (i + j) cc ∧ v = .int .i64 (j : Int) ∧ xc.length = i * 1 ∧ RowsS W3 [rS (.slice al i cl) i ls, rF (.slice ax k cx) k (flatF Fb), rS (.slice ad i cd) i ls, rS (.slice ac (i + j) cc) (i + j) (xc ++ List.replicate j (.string tM)), rF (.slice ab k cb) k (flatF Fb), rF (.slice aa (k + 30) ca) (k + 30) (xa ++ flatF (List.replicate 30 fA))] wr) (fun _ v _ => 30 - (intOf v).toNat)
                case atStart => exact ⟨0, ac, cc, xc, Nat.zero_le _, rfl, rfl, XL.out, by simpa using HS.out⟩
                case round =>
                  clear HS XL
                  obtain ⟨j, ac, cc, xc, hj, rfl, rfl, xl, hs⟩ := hrel
                  have HS := Lib.hid hs
                  have XC := Lib.hid xl
                  clear hs xl
                  by_cases hlt : j < 30
                  · have hki : (j : Int) < 30 := by omega
                    have OC := Lib.hid (HS.out.at (i := 3) rfl)
                    dsimp only at OC
                    have hsz := HS.out.ext.size
                    have HLT := Lib.hid hlt
                    clear hlt
                    go_wp2_with (at_builtin; refine wpList_push_str wr tM W3.heap.size ac (i + j) cc _ OC.out (by omega) hsz rfl _ _ rfl rfl rfl ?_; intro g6 c6 w6 p1 p2 p3; have S6 := Lib.hid (HS.out.push (i := 3) rfl p1 p2 p3); clear p1 p2 p3)
                    go_roundw
                    case rel =>
                      refine ⟨j + 1, _, _, xc, HLT.out, rfl, by go_num, XC.out, ?_⟩
                      rw [List.replicate_succ', ← List.append_assoc]
                      exact S6.out
                    case measure => have := HLT.out; simp [intOf]; omega
                  · have hki : ¬ (j : Int) < 30 := by omega
                    obtain rfl : j = 30 := by omega
                    clear hlt hj
                    have CT : Hid (Calls Tryz.prog 10 #[.slice ad i cd, .slice al i cl] wr fun e w' => e = .returned (.bool true) ∧ Ext wr w') := by
                      have h1 := HS.out.at (i := 2) rfl
                      have h2 := HS.out.at (i := 0) rfl
                      dsimp only at h1 h2
                      rw [← HSS.out] at h1 h2
                      exact c_texts ss _ _ _ _ _ _ (own_strsK h1 (by omega)) (own_strsK h2 (by omega))
                    go_upto_region 30 with (go_at_call 10; (with_reducible refine CT.out.mono ?_); rintro e w9 ⟨rfl, E9⟩)
                    have HS9 := Lib.hid (HS.out.up E9)
                    clear HS CT E9
                    go_wp2
                    go_loopw [24] (fun v wr => ∃ m : Nat, m ≤ k ∧ v = .int .i64 (m : Int) ∧ Ext w9 wr) (fun v _ => k - (intOf v).toNat)
                    case atStart => exact ⟨0, Nat.zero_le _, rfl, Below.refl _ _⟩
                    case round =>
                      obtain ⟨m, hm, rfl, hE⟩ := hrel
                      have HS := Lib.hid (HS9.out.up hE)
                      have HE := Lib.hid hE
                      clear hE
                      by_cases hlt : m < k
                      · have hki : (m : Int) < (k : Int) := by omega
                        obtain ⟨x, hx⟩ : ∃ x, Fb[m]? = some x := ⟨_, List.getElem?_eq_getElem (by omega)⟩
                        obtain ⟨gb, e1, x0, x1, x2, x3⟩ := fnd_at (HS.out.at (i := 4) rfl) hx
                        obtain ⟨gx, e2, y0, y1, y2, y3⟩ := fnd_at (HS.out.at (i := 1) rfl) hx
                        obtain ⟨kd, rl, li, nm⟩ := x
                        dsimp only at x0 x1 x2 x3 y0 y1 y2 y3
                        subst e1 e2
                        have HLT := Lib.hid hlt
                        clear hlt hx
                        go_upto_region 33 with (fail)
                        go_quiet (fail)
                        go_wp2
                        go_roundw
                        case rel => exact ⟨m + 1, HLT.out, by go_num, ext_drewN HE.out _⟩
                        case measure => have := HLT.out; simp [intOf]; omega
                      · have hki : ¬ (m : Int) < (k : Int) := by omega
                        obtain rfl : m = k := by omega
                        clear hlt hm HS9 HE
                        clear hki
                        go_wp2
                        go_loopw [12, 16, 27] (fun vb vd v wr => ∃ j ab cb ad cd, j ≤ 30 ∧ vb = .slice ab (m + j) cb ∧ vd = .slice ad (i + j) cd ∧ v = .int .i64 (j : Int) ∧ RowsS W3 [rS (.slice al i cl) i ls, rF (.slice ax m cx) m (flatF Fb), rS (.slice ad (i + j) cd) (i + j) (ls ++ List.replicate j (.string tO)), rS (.slice ac (i + 30) cc) (i + 30) (xc ++ List.replicate 30 (.string tM)), rF (.slice ab (m + j) cb) (m + j) (flatF Fb ++ flatF (List.replicate j fB)), rF (.slice aa (m + 30) ca) (m + 30) (xa ++ flatF (List.replicate 30 fA))] wr) (fun _ _ v _ => 30 - (intOf v).toNat)
                        case atStart => exact ⟨0, ab, cb, ad, cd, Nat.zero_le _, rfl, rfl, rfl, by simpa [flatF] using HS.out⟩
                        case round =>
                          clear HS
                          obtain ⟨j, ab, cb, ad, cd, hj, rfl, rfl, rfl, hs⟩ := hrel
                          have HS := Lib.hid hs
                          clear hs
                          by_cases hlt : j < 30
                          · have hki : (j : Int) < 30 := by omega
                            have OB := Lib.hid (HS.out.at (i := 4) rfl)
                            dsimp only at OB
                            have hsz := HS.out.ext.size
                            have HLT := Lib.hid hlt
                            clear hlt
                            go_wp2_with (first | (at_builtin; refine wpList_push_fnd wr fB W3.heap.size ab (m + j) cb _ OB.out (by omega) hsz rfl _ _ rfl rfl rfl ?_; intro g6 c6 w6 p1 p2 p3; have S6 := Lib.hid (HS.out.push (i := 4) rfl p1 p2 (p3.imp id Nat.le_of_lt)); have OD := Lib.hid (S6.out.at (i := 2) rfl); dsimp only at OD; have hsz6 := S6.out.ext.size; clear p1 p2 p3) | (at_builtin; refine wpList_push_str w6 tO W3.heap.size ad (i + j) cd _ OD.out (by omega) hsz6 rfl _ _ rfl rfl rfl ?_; intro g7 c7 w7 p1 p2 p3; have S7 := Lib.hid (S6.out.push (i := 2) rfl p1 p2 p3); clear p1 p2 p3) | fail)
                            go_roundw
                            case rel =>
                              refine ⟨j + 1, _, _, _, _, HLT.out, rfl, rfl, by go_num, ?_⟩
                              rw [show flatF Fb ++ flatF (List.replicate (j + 1) fB) = flatF Fb ++ flatF (List.replicate j fB) ++ valsF fB by rw [List.replicate_succ', flatF_snoc, List.append_assoc], show ls ++ List.replicate (j + 1) (Value.string tO) = ls ++ List.replicate j (Value.string tO) ++ [Value.string tO] by rw [List.replicate_succ', List.append_assoc]]
                              exact S7.out
                            case measure => have := HLT.out; simp [intOf]; omega
                          · have hki : ¬ (j : Int) < 30 := by omega
                            obtain rfl : j = 30 := by omega
                            clear hlt hj
                            have XD : Hid (ls.length = i * 1) := (HS.out.at (i := 0) rfl).1
                            have XB : Hid ((flatF Fb).length = m * 4) := (HS.out.at (i := 1) rfl).1
                            go_wp2
                            go_loopw [28] (fun v wz => ∃ j : Nat, j ≤ 30 ∧ v = .int .i64 (j : Int) ∧ wz = wr) (fun v _ => 30 - (intOf v).toNat)
                            case atStart => exact ⟨0, Nat.zero_le _, rfl, rfl⟩
                            case round =>
                              obtain ⟨j, hj, rfl, rfl⟩ := hrel
                              by_cases hlt : j < 30
                              · have hki : (j : Int) < 30 := by omega
                                obtain ⟨g1, e1, y1⟩ := rowF_at (HS.out.at (i := 5) rfl) XA.out hlt
                                obtain ⟨g2, e2, y2⟩ := rowS_at (HS.out.at (i := 3) rfl) XC.out hlt
                                obtain ⟨g3, e3, y3⟩ := rowF_at (HS.out.at (i := 4) rfl) XB.out hlt
                                obtain ⟨g4, e4, y4⟩ := rowS_at (HS.out.at (i := 2) rfl) XD.out hlt
                                subst e1 e2 e3 e4
                                have z1 : wr.cell? ⟨g1, (m + j) * 4, none⟩ = some (.int .i64 (-2)) := y1
                                have z2 : wr.cell? ⟨g2, i + j, none⟩ = some (.string ⟨#[60, 109, 111, 114, 101, 62]⟩) := y2
                                have z3 : wr.cell? ⟨g3, (m + j) * 4, none⟩ = some (.int .i64 (-3)) := y3
                                have z4 : wr.cell? ⟨g4, i + j, none⟩ = some (.string ⟨#[60, 111, 116, 104, 101, 114, 115, 62]⟩) := y4
                                clear y1 y2 y3 y4
                                have v1 : IntKind.i64.wrap ((m : Int) + (j : Int)) = (m : Int) + (j : Int) := by rw [IntKind.wrap_i64]; omega
                                have v2 : IntKind.i64.wrap ((i : Int) + (j : Int)) = (i : Int) + (j : Int) := by rw [IntKind.wrap_i64]; omega
                                have v3 : (0 : Int) ≤ (m : Int) + (j : Int) := by omega
                                have v4 : (0 : Int) ≤ (i : Int) + (j : Int) := by omega
                                have v5 : (m : Int) + (j : Int) < (m : Int) + 30 := by omega
                                have v6 : (i : Int) + (j : Int) < (i : Int) + 30 := by omega
                                have v7 : ((m : Int) + (j : Int)).toNat = m + j := by omega
                                have v8 : ((i : Int) + (j : Int)).toNat = i + j := by omega
                                have HLT := Lib.hid hlt
                                clear hlt
                                go_wp2
                                exact ⟨⟨j + 1, HLT.out, by go_num, trivial⟩, by have := HLT.out; simp [intOf]; omega⟩
                              · have hki : ¬ (j : Int) < 30 := by omega
                                clear hlt hj
                                obtain ⟨hx1, hx2⟩ := HX.out _ HS.out.ext
                                have E9 := HS.out.ext
                                go_wp2_with (first | (go_at_call 11; (with_reducible refine (ST.out _ E9).mono ?_); rintro e v1 ⟨rfl, G1⟩; have H1 := ext_trans E9 G1) | (go_at_call 12; (with_reducible refine (KG.out _ H1).mono ?_); rintro e v2 ⟨rfl, G2⟩; have H2 := ext_trans H1 G2) | (go_at_call 12; (with_reducible refine (KW.out _ H2).mono ?_); rintro e v3 ⟨rfl, G3⟩; have H3 := ext_trans H2 G3) | fail)
                                go_returns
                                exact ⟨rfl, ext_trans HF.out H3⟩
end Go.Proofs.YtlalgaioiapjmaaGreatDoor
