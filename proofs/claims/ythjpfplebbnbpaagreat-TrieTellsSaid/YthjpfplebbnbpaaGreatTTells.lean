/- The walk of the law TrieTells: whatever the rows, the order, the beginnings and the number, it returns true, and nothing old is touched. -/
import Derived.Test.YthjpfplebbnbpaaGreatBuilt
import Derived.Test.YthjpfplebbnbpaaGreatNilT
import Derived.Test.YthjpfplebbnbpaaGreatRFol
import Derived.Test.YthjpfplebbnbpaaGreatLists
namespace Go.Proofs.YthjpfplebbnbpaaGreat
open Go.ChangeShapes Go.WideShapes Go.ChangeAt Go.RowKit
/-- What follows a beginning. -/
def folX (d : Nat) (ways : List (List ByteArray)) (b : List ByteArray) : List ByteArray := if d ≤ b.length then [] else folR ways b
/-- A trie and the document's, or two nil ones: what they tell is one. -/
structure Agr (w3 : World) (p q : Option Addr) (ways : List (List ByteArray)) (d : Nat) (bb : Bool) : Prop where
  d64 : d ≤ 64
  small : ways.length ≤ 400
  cnt : ∀ W b ab k cb, Ext w3 W → StrsAt W ab k b → Calls Tryz.prog 9 #[.pointer p, .slice ab k cb] W fun e w' => e = .returned (.int .i64 (countP ways b : Nat)) ∧ Ext W w'
  rcnt : ∀ W b ab k cb, Ext w3 W → StrsAt W ab k b → Calls Tryz.prog 11 #[.pointer q, .slice ab k cb] W fun e w' => e = .returned (.int .i64 (countP ways b : Nat)) ∧ Ext W w'
  fol : ∀ W b ab k cb, Ext w3 W → StrsAt W ab k b → Calls Tryz.prog 10 #[.pointer p, .slice ab k cb] W fun e w' => ∃ a n c, e = .returned (.slice a n c) ∧ w'.ownsRow W.heap.size 9 1 (.slice a n c) n ((folX d ways b).map Value.string) ∧ Ext W w' ∧ n ≤ 1000000
  rfol : ∀ W b ab k cb, Ext w3 W → StrsAt W ab k b → Calls Tryz.prog 13 #[.pointer q, .slice ab k cb] W fun e w' => ∃ a n c, e = .returned (.slice a n c) ∧ w'.ownsRow W.heap.size 9 1 (.slice a n c) n ((folX d ways b).map Value.string) ∧ Ext W w' ∧ n ≤ 1000000
  wys : ∀ W most, Ext w3 W → Calls Tryz.prog 14 #[.pointer p, .int .i64 most] W (WaysPost ways most W)
  len : ∀ W, Ext w3 W → Calls Tryz.prog 16 #[.pointer p] W fun e w' => e = .returned (.int .i64 (ways.length : Nat)) ∧ w' = W
  dep : ∀ W, Ext w3 W → Calls Tryz.prog 17 #[.pointer p] W fun e w' => e = .returned (.int .i64 (d : Nat)) ∧ w' = W
  wlk : ∀ W, Ext w3 W → Calls Tryz.prog 7 #[.pointer p] W fun e w' => Ext W w' ∧ ∃ pv, e = .returned (.pointer pv) ∧ ∀ w, (binOp .eql 32 (.pointer pv) (.pointer none)).run Tryz.prog w = .ok (.bool bb) w
  ref : (q = none ∧ bb = true ∧ ways = [] ∧ d = 0) ∨ (bb = false ∧ ∃ rt lo, q = some ⟨rt, 0, none⟩ ∧ ∀ W, Ext w3 W → RTrie W lo rt d ways)
theorem nil_eqC (w : World) : (binOp .eql 32 (.pointer none) (.pointer none)).run Tryz.prog w = .ok (.bool true) w := by kernel_rfl
theorem ptr_eqC (w : World) (b : Nat) : (binOp .eql 32 (.pointer (some ⟨b, 0, none⟩)) (.pointer none)).run Tryz.prog w = .ok (.bool false) w := by kernel_rfl
theorem agr_nil (w3 : World) : Agr w3 none none [] 0 true :=
  ⟨by omega, by simp, fun W b ab k cb _ h => (c_countTNil ab k cb W h.1).mono fun e w' ⟨h1, h2⟩ => ⟨h1, by rw [h2]; exact Below.refl _ _⟩,
   fun W b ab k cb _ _ => (c_rcountNil ab k cb W).mono fun e w' ⟨h1, h2⟩ => ⟨h1, by rw [h2]; exact Below.refl _ _⟩,
   fun W b ab k cb _ h => (c_followTNil ab k cb W h.1).mono fun e w' ⟨h1, h2⟩ => ⟨none, 0, 0, h1, by unfold folX; rw [if_pos (Nat.zero_le _)]; exact World.ownsRow_nil _ _ _ _, by rw [h2]; exact Below.refl _ _, Nat.zero_le _⟩,
   fun W b ab k cb _ _ => (c_rfollowNil ab k cb W).mono fun e w' ⟨h1, h2⟩ => ⟨none, 0, 0, h1, by unfold folX; rw [if_pos (Nat.zero_le _)]; exact World.ownsRow_nil _ _ _ _, by rw [h2]; exact Below.refl _ _, Nat.zero_le _⟩,
   fun W most _ => c_lawWaysG none [] most W (eachOk_nil W) (by simp), fun W _ => c_lenNil W, fun W _ => c_depthNil W,
   fun W _ => (c_walkNil W).mono fun e w' ⟨h1, h2⟩ => ⟨by rw [h2]; exact Below.refl _ _, none, h1, nil_eqC⟩, .inl ⟨rfl, rfl, rfl, rfl⟩⟩
theorem agr_some {w3 : World} {pt rt lo d : Nat} {ways : List (List ByteArray)} (hd : d ≤ 64) (ht : TrieV w3 pt d ways) (hr : RTrie w3 lo rt d ways) (hw : Ways d ways) (hn : ways.length ≤ 400) : Agr w3 (some ⟨pt, 0, none⟩) (some ⟨rt, 0, none⟩) ways d false :=
  ⟨hd, hn, fun W b ab k cb e h => c_count pt d ways b ab k cb W (ht.ext e) hw h hd (by omega),
   fun W b ab k cb e h => c_rcount lo rt d ways b ab k cb W (hr.ext e) h (by omega),
   fun W b ab k cb e h => (c_follow pt d ways b ab k cb W (ht.ext e) hw h hd (by omega)).mono fun e w' ⟨a, n, c, xs, h1, h2, h3, h4, h5⟩ => ⟨a, n, c, h1, by rw [h4.eq hw] at h2; exact h2, h3, h5⟩,
   fun W b ab k cb e h => c_rfollow lo rt d ways b ab k cb W (hr.ext e) hw.len h (by omega),
   fun W most e => c_lawWays pt d ways most W (ht.ext e) hw hd (by omega), fun W e => c_lenT pt d ways W (ht.ext e), fun W e => c_depth pt d ways W (ht.ext e),
   fun W e => (c_walk pt d ways W.heap.size W (ht.ext e) (Nat.le_refl _)).mono fun e w' ⟨h1, h2, h3⟩ => ⟨h3, _, h1, fun w => ptr_eqC w _⟩, .inr ⟨rfl, rt, lo, rfl, fun W e => hr.ext e⟩⟩
theorem wayCut_all (ways : List (List ByteArray)) : wayCut ways 0 = ways := by
  unfold wayCut
  rw [if_neg (by omega)]
theorem ItemsAt.take {w : World} {a : Option Addr} {n : Nat} {rs : List (List ByteArray)} (h : ItemsAt w a n rs) {k : Nat} (hk : k ≤ n) : ItemsAt w a k (rs.take k) := by
  refine ⟨Nat.le_trans hk h.1, by rw [List.length_take, h.2.1]; omega, fun i x hx => ?_⟩
  rw [List.getElem?_take] at hx
  split at hx
  · exact h.2.2 i x hx
  · cases hx
theorem StrsAt.cut {w : World} {a : Option Addr} {n : Nat} {xs : List ByteArray} (h : StrsAt w a n xs) {k : Nat} (hk : k ≤ n) : StrsAt w a k (xs.take k) := by
  refine ⟨Nat.le_trans hk h.1, by rw [List.length_take, h.2.1]; omega, fun i x hx => ?_⟩
  rw [List.getElem?_take] at hx
  split at hx
  · exact h.2.2 i x hx
  · cases hx
set_option maxRecDepth 100000 in
set_option maxHeartbeats 8000000 in
theorem c_trieTells (x : CaseV) (rows : List (List ByteArray)) (os : List Int) (bs : List (List ByteArray)) (ba : Option Addr) (bn bc : Nat) (most : Int) (w : World) (h : CaseAt w x rows os) (hb : SliceAt rowC 1 w ba bn bs) (hbn : bn ≤ maxLen) :
    Calls Tryz.prog 4 #[x.v, .slice ba bn bc, .int .i64 most] w fun e w' => e = .returned (.bool true) ∧ Ext w w' := by
  have GR : Hid (∀ w1, Calls Tryz.prog 5 #[x.v] w1 fun e w' => e = .returned (.bool (decide (400 < x.rn))) ∧ Ext w1 w') := fun w1 => c_great x w1
  have HC := Lib.hid h
  have HBS := Lib.hid hb
  have hbn2 : bn ≤ 9223372036854775807 := hbn
  by_cases hg : 400 < x.rn
  · rw [decide_eq_true hg] at GR
    obtain ⟨ar0, ra, rn, rc, oa, on, oc⟩ := x
    unfold CaseV.v at GR ⊢
    dsimp only at GR ⊢
    clear h hb hg hbn
    go_enter Tryz.func4, Tryz.ntmps4
    go_wp2_with (go_at_call 5; (with_reducible refine (GR.out _).mono ?_); rintro e w2 ⟨rfl, E2⟩)
    go_returns
    exact ⟨rfl, ext_trans (ext_alloc (Below.refl _ _) _) E2⟩
  · rw [decide_eq_false hg] at GR
    have BL : Hid (∀ w1, Ext w w1 → Calls Tryz.prog 6 #[x.v] w1 fun e w' => Ext w1 w' ∧ ∃ p q ways d bb, e = .returned (.tuple #[.pointer p, .pointer q, .bool true]) ∧ Agr w' p q ways d bb) := fun w1 h1 => (c_built x rows os w1 (HC.out.keep h1) (by omega)).mono fun e w' ⟨r1, r2⟩ => ⟨r1, by
      rcases r2 with rfl | ⟨pt, rt, lo, ways, rfl, s1, s2, s3, _, s5, s6⟩
      · exact ⟨none, none, [], 0, true, rfl, agr_nil w'⟩
      · exact ⟨_, _, ways, os.length, false, rfl, agr_some s1 s2 s3 s5 s6⟩⟩
    obtain ⟨ar0, ra, rn, rc, oa, on, oc⟩ := x
    unfold CaseV.v at GR BL ⊢
    dsimp only at GR BL ⊢
    clear h hb hg hbn
    go_enter Tryz.func4, Tryz.ntmps4
    go_upto_region 3 with (go_at_call 5; (with_reducible refine (GR.out _).mono ?_); rintro e w1 ⟨rfl, E1⟩)
    refine wp_gen (fun W1 hW1 => ?_)
    have e1 : Ext w W1 := by rw [hW1]; exact ext_trans (ext_alloc (Below.refl _ _) _) E1
    have x0 : W1.cell? ⟨w.heap.size, 0, none⟩ = some (.int .i64 ar0) := by rw [hW1]; exact keep E1 (by go_simp)
    have x1 : W1.cell? ⟨w.heap.size, 1, none⟩ = some (.slice ra rn rc) := by rw [hW1]; exact keep E1 (by go_simp)
    have x2 : W1.cell? ⟨w.heap.size, 2, none⟩ = some (.slice oa on oc) := by rw [hW1]; exact keep E1 (by go_simp)
    have B1 := Lib.hid (BL.out W1 e1)
    have EW1 := Lib.hid e1
    clear hW1 E1 e1 BL GR
    go_upto_if 32 with (go_at_call 6; (with_reducible refine B1.out.mono ?_); rintro e w3 ⟨E3, p, q, ways, d, bb, rfl, ag⟩; have AG := Lib.hid ag; have eqq : ∀ w, (binOp .eql 29 (.pointer q) (.pointer none)).run Tryz.prog w = .ok (.bool bb) w := (by rcases ag.ref with ⟨e1, e2, _⟩ | ⟨e1, rt, lo, e2, _⟩ <;> rw [e1, e2]; exact nil_eqRT; exact fun w => ptr_eqRT w rt); clear ag)
    have EQQ := Lib.hid eqq
    have EW3 : Hid (Ext w w3) := ext_trans EW1.out E3
    have hd64 := AG.out.d64
    have hsm := AG.out.small
    clear x0 x1 x2 B1 E3 EW1 eqq
    obtain ⟨N, hN⟩ : ∃ N, ways.length = N := ⟨_, rfl⟩
    have HN := Lib.hid hN
    rw [hN] at hsm
    clear hN
    go_cut [10, 11] (fun v10 v11 wc => wc = w3 ∧ ∃ aw cw, v10 = .slice aw N cw ∧ v11 = .int .i64 (d : Int) ∧ ItemsAt w3 aw N ways ∧ N ≤ cw)
    case first =>
      rcases AG.out.ref with ⟨rfl, rfl, rfl, rfl⟩ | ⟨rfl, rt, lo, rfl, hrt⟩
      · obtain rfl : N = 0 := HN.out.symm
        go_wp2
        go_meet
        exact ⟨rfl, none, 0, rfl, rfl, ⟨Nat.zero_le _, rfl, fun i r hr => by simp at hr⟩, Nat.le_refl _⟩
      · obtain ⟨aw, cw, vs, k1, k3, k4⟩ := (hrt w3 (Below.refl _ _)).row
        have k2 := RowsAt.items k3 k4 rfl
        have K5 := Lib.hid (cap_of_own k3).1
        have k0 := (hrt w3 (Below.refl _ _)).c0
        rw [HN.out] at k1 k2 K5
        have K2 := Lib.hid k2
        clear hrt k2 k3 k4
        go_wp2
        go_meet
        exact ⟨rfl, aw, cw, rfl, rfl, K2.out, K5.out⟩
    obtain ⟨Ec, aw, cw, rfl, rfl, itw, hcw⟩ := hcut
    obtain rfl := Ec.symm
    have ECh : Hid (Ext w3 w3) := Below.refl _ _
    have ITW := Lib.hid itw
    clear itw
    go_upto_block 0 with (fail)
    go_cut [] (fun wd => Ext w3 wd)
    case first =>
      go_wp2
      go_loopw [12] (fun v wj => ∃ i : Nat, i ≤ bn ∧ i ≤ 50 ∧ v = .int .i64 (i : Int) ∧ Ext w3 wj) (fun v _ => 50 - (intOf v).toNat)
      case atStart => exact ⟨0, Nat.zero_le _, by omega, rfl, ECh.out⟩
      case round =>
        obtain ⟨i, hi, hi50, rfl, hw⟩ := hrel
        have HW := Lib.hid hw
        by_cases hlt : i < bn
        · have hlti : (i : Int) < (bn : Int) := by omega
          by_cases h50 : i < 50
          · have h50i : (i : Int) < 50 := by omega
            obtain ⟨b, b1, o1, hx, rfl, a5, n5, c5, g1, g2, g3, g4⟩ := (HBS.out.keep (fun _ _ _ => rowC.keep (ext_trans EW3.out hw))).at hlt
            have g1 : wr.cell? ⟨b1, o1 + i, none⟩ = some (.slice a5 n5 c5) := by simpa using g1
            have G2 := Lib.hid g2
            have G3 := Lib.hid g3
            obtain ⟨s0, hs0, sz0, sz1, sz2⟩ := info_parts info_str
            obtain ⟨il, ic, io⟩ := str_cells g2
            have IL := Lib.hid il
            have IC := Lib.hid ic
            have IO := Lib.hid io
            have B1 : Hid (0 + n5 ≤ maxLen) := by show _ ≤ _; unfold maxLen; omega
            have B2 : Hid ((0 + n5) * 16 ≤ 140737488355328) := by show _ ≤ _; omega
            have B3 : Hid (n5 + 1 ≤ maxLen) := by show _ ≤ _; unfold maxLen; omega
            have B4 : Hid ((n5 + 1) * 16 ≤ 140737488355328) := by show _ ≤ _; omega
            have G1 := Lib.hid g1
            clear hx g2 g3 il ic io hw
            go_upto_region 16 with (at_builtin; (first
              | (refine wpList_append_any rfl _ _ 46 rfl wr.heap.size 9 s0 (.string ⟨#[]⟩) 1 16 Tryz.underlying46 hs0 sz0 sz1 sz2 rfl (by decide) (.slice none 0 0) 0 [] rfl (World.ownsRow_nil _ _ _ _) a5 n5 c5 (b.map Value.string) rfl G3.out IL.out IC.out IO.out B1.out B2.out (Nat.le_refl _) ?_; intro v1 w4 own1 gr1; rw [Nat.zero_add, List.nil_append] at own1; have OW1 := Lib.hid (own1.alloc (.cells #[.string ⟨#[109, 97, 114, 107]⟩] 9)); have hz1 : wr.heap.size ≤ w4.heap.size := gr1.size; have N1 := Lib.hid (news1 w4 (.string ⟨#[109, 97, 114, 107]⟩) 9))
              | (refine wpList_append_any rfl _ _ 46 rfl wr.heap.size 9 s0 (.string ⟨#[]⟩) 1 16 Tryz.underlying46 hs0 sz0 sz1 sz2 rfl (by decide) v1 n5 (b.map Value.string) rfl OW1.out (some ⟨w4.heap.size, 0, none⟩) 1 1 [.string ⟨#[109, 97, 114, 107]⟩] rfl (by intro h; cases h) rfl (fun ad e => by cases e; exact N1.out) (by simp [Value.oneCell']) B3.out B4.out (size_alloc_le hz1) ?_; intro v2 w5 own2 gr2; obtain ⟨g2, c2, rfl⟩ := ownsRow_succ own2)))
            have e4 : Ext wr w4 := ⟨gr1.os, gr1.tape, gr1.output, gr1.size, fun i hi => gr1.block i hi (fun e => by cases e)⟩
            have e5 : Ext wr w5 := ext_ownB (ext_alloc e4 _) gr2 (fun g e => (OW1.out.lt g e).1)
            have hcc := (cap_of_own own2).1
            have l1 : (n5 : Int) ≤ (c2 : Int) := by omega
            have l2 : (0 : Int) ≤ (n5 : Int) := by omega
            have l3 : (n5 : Int) + 1 ≤ (c2 : Int) := by omega
            have l4 : (0 : Int) ≤ (n5 : Int) + 1 := by omega
            have l5 : ((n5 : Int) + 1).toNat = n5 + 1 := by omega
            have l6 : (n5 : Int) < (n5 : Int) + 1 := by omega
            have wn : IntKind.i64.wrap ((n5 : Int) + 1) = (n5 : Int) + 1 := by rw [IntKind.wrap_i64]; omega
            have hbl : b.length = n5 := G2.out.2.1
            have SG : Hid (StrsAt w5 (some ⟨g2, 0, none⟩) n5 b) := by
              have h3 : StrsAt w5 (some ⟨g2, 0, none⟩) (n5 + 1) (b ++ [⟨#[109, 97, 114, 107]⟩]) := own_strs (by rw [List.map_append]; exact own2) (own_len own2).1
              have h4 := h3.cut (k := n5) (Nat.le_succ _)
              rwa [List.take_append_of_le_length (by omega), List.take_of_length_le (by omega)] at h4
            have SB := Lib.hid (G2.out.keep e5)
            have MK : w5.cell? ⟨g2, n5, none⟩ = some (.string ⟨#[109, 97, 114, 107]⟩) := by
              have := own2.cells (g := g2) rfl n5 (.string ⟨#[109, 97, 114, 107]⟩) (by rw [List.getElem?_append_right (by rw [List.length_map]; omega), List.length_map, hbl, Nat.sub_self]; rfl)
              rwa [Addr.add_lit, Nat.zero_add] at this
            have k1 := keep e5 G1.out
            have E35 : Ext w3 w5 := ext_trans HW.out e5
            have hmk : ((⟨#[109, 97, 114, 107]⟩ : ByteArray).toList == (⟨#[109, 97, 114, 107]⟩ : ByteArray).toList) = true := by simp
            have MKh := Lib.hid MK
            have K1 := Lib.hid k1
            have E35h := Lib.hid E35
            clear e4 e5 own2 gr1 gr2 MK OW1 N1 hcc hbl g1 E35
            obtain ⟨ys, hys⟩ : ∃ ys, folX d ways b = ys := ⟨_, rfl⟩
            obtain ⟨M, hM⟩ : ∃ M, countP ways b = M := ⟨_, rfl⟩
            have CT : Hid (Calls Tryz.prog 9 #[.pointer p, .slice (some ⟨g2, 0, none⟩) n5 c2] w5 fun e w' => e = .returned (.int .i64 (M : Nat)) ∧ Ext w5 w') := by rw [← hM]; exact AG.out.cnt w5 b _ _ _ E35h.out SG.out
            have FO : Hid (∀ W, Ext w5 W → Calls Tryz.prog 10 #[.pointer p, .slice (some ⟨g2, 0, none⟩) n5 c2] W fun e w' => ∃ a n c, e = .returned (.slice a n c) ∧ w'.ownsRow W.heap.size 9 1 (.slice a n c) n (ys.map Value.string) ∧ Ext W w' ∧ n ≤ 1000000) := fun W hW => by rw [← hys]; exact AG.out.fol W b _ _ _ (ext_trans E35h.out hW) (SG.out.keep hW)
            have RC : Hid (∀ W, Ext w5 W → Calls Tryz.prog 11 #[.pointer q, .slice a5 n5 c5] W fun e w' => e = .returned (.int .i64 (M : Nat)) ∧ Ext W w') := fun W hW => by rw [← hM]; exact AG.out.rcnt W b _ _ _ (ext_trans E35h.out hW) (SB.out.keep hW)
            have RF : Hid (∀ W, Ext w5 W → Calls Tryz.prog 13 #[.pointer q, .slice a5 n5 c5] W fun e w' => ∃ a n c, e = .returned (.slice a n c) ∧ w'.ownsRow W.heap.size 9 1 (.slice a n c) n (ys.map Value.string) ∧ Ext W w' ∧ n ≤ 1000000) := fun W hW => by rw [← hys]; exact AG.out.rfol W b _ _ _ (ext_trans E35h.out hW) (SB.out.keep hW)
            have TG : Hid (∀ W, Ext w5 W → Calls Tryz.prog 12 #[.slice (some ⟨g2, 0, none⟩) n5 c2, .slice a5 n5 c5] W fun e w' => e = .returned (.bool true) ∧ Ext W w') := fun W hW => by
              have := c_texts b b _ n5 c2 a5 n5 c5 W (SG.out.keep hW) (SB.out.keep hW)
              rwa [decide_eq_true rfl] at this
            clear hys hM
            go_upto_region 19 with (first
              | (go_at_call 9; (with_reducible refine CT.out.mono ?_); rintro e w6 ⟨rfl, E6⟩)
              | (go_at_call 10; (with_reducible refine (FO.out _ E6).mono ?_); rintro e w7 ⟨a7, n7, c7, rfl, o7, E7, m7⟩))
            have E57 := ext_trans E6 E7
            have j1 := keep E57 K1.out
            have O7 := Lib.hid o7
            have E67 := Lib.hid E7
            have E56 := Lib.hid E6
            clear o7 E6 E7 CT FO k1
            have MK7 := keep E57 MKh.out
            have E57h := Lib.hid E57
            have TX : Hid (∀ W a9 n9 c9, Ext w7 W → StrsAt W a9 n9 ys → Calls Tryz.prog 12 #[.slice a7 n7 c7, .slice a9 n9 c9] W fun e w' => e = .returned (.bool true) ∧ Ext W w') := fun W a9 n9 c9 hW h9 => by
              have := c_texts ys ys a7 n7 c7 a9 n9 c9 W ((own_strs O7.out (own_len O7.out).1).keep hW) h9
              rwa [decide_eq_true rfl] at this
            clear MK7 E57
            go_upto_region 21 with (first
              | (go_at_call 11; (with_reducible refine (RC.out _ E57h.out).mono ?_); rintro e w8 ⟨rfl, E8⟩; have j2 := keep E8 j1; have E58 := ext_trans E57h.out E8)
              | (go_at_call 13; (with_reducible refine (RF.out _ E58).mono ?_); rintro e w9 ⟨a9, n9, c9, rfl, o9, E9, m9⟩; have j3 := keep E9 j2; have E59 := ext_trans E58 E9; have S9 := own_strs o9 (own_len o9).1)
              | (go_at_call 12; (first
                | ((with_reducible refine (TX.out _ _ _ _ (ext_trans E8 E9) S9).mono ?_); rintro e w10 ⟨rfl, E10⟩; have j4 := keep E10 j3; have E510 := ext_trans E59 E10)
                | ((with_reducible refine (TG.out _ E510).mono ?_); rintro e w11 ⟨rfl, E11⟩; have E511 := ext_trans E510 E11; have j5 := keep E511 MKh.out))))
            have E711 : Hid (Ext w7 w11) := ext_trans E8 (ext_trans E9 (ext_trans E10 E11))
            have O11 := Lib.hid (up_ext O7.out E711.out)
            have E611 := Lib.hid (ext_trans E67.out E711.out)
            clear j1 j2 j3 j4 j5 E8 E9 E10 E11 E58 E59 E510 E511 o9 m9 S9 RC RF TG TX
            have m7' := m7
            go_wp2
            go_loopw [16] (fun v wj => ∃ k : Nat, k ≤ n7 ∧ v = .int .i64 (k : Int) ∧ Ext w6 wj ∧ ∃ us, wj.ownsRow w6.heap.size 9 1 (.slice a7 n7 c7) n7 us) (fun v _ => n7 - (intOf v).toNat)
            case atStart => exact ⟨0, Nat.zero_le _, rfl, E611.out, _, O11.out⟩
            case round =>
              obtain ⟨k, hk, rfl, he, us, hu⟩ := hrel
              have HE := Lib.hid he
              by_cases hlk : k < n7
              · have hki : (k : Int) < (n7 : Int) := by omega
                obtain ⟨g7, p7, e7, _⟩ := own_formS hu (by omega)
                cases e7
                obtain ⟨u, hu1⟩ : ∃ u, us[k]? = some u := ⟨_, List.getElem?_eq_getElem (by have := hu.1; omega)⟩
                have ck := hu.cells (g := g7) rfl k u hu1
                rw [Addr.add_lit, Nat.zero_add] at ck
                have fk : wr.frozen? ⟨g7, k, none⟩ = false := hu.frozenAt _
                have NX : Hid (Ext w6 (wr.setCell ⟨g7, k, none⟩ (.string ⟨#[103, 111, 110, 101]⟩)) ∧ ∃ us, (wr.setCell ⟨g7, k, none⟩ (.string ⟨#[103, 111, 110, 101]⟩)).ownsRow w6.heap.size 9 1 (.slice (some ⟨g7, 0, none⟩) n7 c7) n7 us) := ⟨ext_set he (hu.lt g7 rfl).1 _, _, (hu.stored k (.string ⟨#[103, 111, 110, 101]⟩)).1⟩
                clear he hu hu1
                go_wp2
                go_roundw
                case rel => exact ⟨k + 1, by omega, by go_num, NX.out.1, NX.out.2⟩
                case measure => simp [intOf]; omega
              · obtain rfl : k = n7 := by omega
                have hge : ¬ (k : Int) < (k : Int) := by omega
                clear hu he
                go_wp2
                go_roundw
                case rel => exact ⟨i + 1, by omega, by omega, by go_num, ext_trans (ext_trans E35h.out E56.out) HE.out⟩
                case measure => simp [intOf]; omega
          · obtain rfl : i = 50 := by omega
            go_wp2
            go_meet
            exact HW.out
        · obtain rfl : i = bn := by omega
          have hge : ¬ (i : Int) < (i : Int) := by omega
          go_wp2
          go_meet
          exact HW.out
    have HCT := Lib.hid hcut
    clear hcut
    have EQ2 := EQQ.out
    go_upto_region 27 with (first
      | ((go_at_call 14; (with_reducible refine (AG.out.wys _ 0 HCT.out).mono ?_); rintro e w4 ⟨a4, n4, c4, vs4, rfl, E4, o4, r4, _⟩); have E34 := ext_trans HCT.out E4)
      | ((go_at_call 14; (with_reducible refine (AG.out.wys _ most E34).mono ?_); rintro e w5 ⟨a5, n5, c5, vs5, rfl, E5, o5, r5, _⟩)))
    have E35 := ext_trans E34 E5
    have IT5 : Hid (ItemsAt w5 a4 n4 ways) := (RowsAt.items (o4) (by rw [wayCut_all] at r4; exact r4) (by have h1 := o4.1; have h2 := r4.1; rw [wayCut_all] at h2; omega)).keep E5
    have IM5 : Hid (ItemsAt w5 a5 n5 (wayCut ways most)) := RowsAt.items o5 r5 (by have h1 := o5.1; have h2 := r5.1; omega)
    have IW5 : Hid (ItemsAt w5 aw N ways) := ITW.out.keep E35
    have E35h := Lib.hid E35
    clear E34 o4 o5 r4 r5 E4 E5 E35
    obtain ⟨c, hc⟩ : ∃ c, (bb != bb) = c := ⟨_, rfl⟩
    have hcf : c = false := by rw [← hc]; simp
    subst hcf
    have LS : Hid (Calls Tryz.prog 15 #[.slice a4 n4 c4, .slice aw N cw] w5 fun e w' => e = .returned (.bool true) ∧ Ext w5 w') := c_lists ways a4 n4 c4 aw N cw w5 IT5.out IW5.out
    have LN : Hid (∀ W, Ext w5 W → Calls Tryz.prog 16 #[.pointer p] W fun e w' => e = .returned (.int .i64 (N : Nat)) ∧ w' = W) := fun W hW => by
      have := AG.out.len W (ext_trans E35h.out hW)
      rwa [HN.out] at this
    have DP : Hid (∀ W, Ext w5 W → Calls Tryz.prog 17 #[.pointer p] W fun e w' => e = .returned (.int .i64 (d : Nat)) ∧ w' = W) := fun W hW => AG.out.dep W (ext_trans E35h.out hW)
    have WK : Hid (∀ W, Ext w5 W → Calls Tryz.prog 7 #[.pointer p] W fun e w' => Ext W w' ∧ ∃ pv, e = .returned (.pointer pv) ∧ ∀ w, (binOp .eql 32 (.pointer pv) (.pointer none)).run Tryz.prog w = .ok (.bool bb) w) := fun W hW => AG.out.wlk W (ext_trans E35h.out hW)
    go_upto_region 29 with (first
      | (go_at_call 15; (with_reducible refine LS.out.mono ?_); rintro e w6 ⟨rfl, E6⟩)
      | (go_at_call 16; (with_reducible refine (LN.out _ E6).mono ?_); rintro e w7 ⟨rfl, hw7⟩; obtain rfl := hw7.symm)
      | (go_at_call 17; (with_reducible refine (DP.out _ E6).mono ?_); rintro e w7 ⟨rfl, hw7⟩; obtain rfl := hw7.symm)
      | (go_at_call 7; (with_reducible refine (WK.out _ E6).mono ?_); rintro e w7 ⟨E7, pv, rfl, eqv⟩))
    have E57 : Hid (Ext w5 w7) := ext_trans E6 E7
    have EF : Hid (Ext w w7) := ext_trans EW3.out (ext_trans E35h.out E57.out)
    clear E6 E7 eqv EQ2 LS LN DP WK hc
    by_cases hm : 0 < most ∧ most < (N : Int)
    · obtain ⟨m, rfl⟩ : ∃ m : Nat, most = (m : Int) := ⟨most.toNat, by omega⟩
      have h1 : (0 : Int) < (m : Int) := hm.1
      have h2 : (m : Int) < (N : Int) := hm.2
      have l1 : (m : Int) ≤ (cw : Int) := by omega
      have l0 : (0 : Int) ≤ (m : Int) := by omega
      have LT : Hid (∀ c', Calls Tryz.prog 15 #[.slice a5 n5 c5, .slice aw m c'] w7 fun e w' => e = .returned (.bool true) ∧ Ext w7 w') := fun c' => by
        have hwc : wayCut ways (m : Int) = ways.take m := by
          unfold wayCut
          rw [if_pos (by have := HN.out; omega)]
          rfl
        have i5 := IM5.out
        rw [hwc] at i5
        exact c_lists (ways.take m) a5 n5 c5 aw m c' w7 (i5.keep E57.out) ((IW5.out.take (k := m) (by omega)).keep E57.out)
      clear hm
      go_wp2_with (go_at_call 15; (with_reducible refine (LT.out _).mono ?_); rintro e w8 ⟨rfl, E8⟩)
      go_returns
      exact ⟨rfl, ext_trans EF.out E8⟩
    · have LT : Hid (Calls Tryz.prog 15 #[.slice a5 n5 c5, .slice aw N cw] w7 fun e w' => e = .returned (.bool true) ∧ Ext w7 w') := by
        have hwc : wayCut ways most = ways := by
          unfold wayCut
          rw [if_neg (by have := HN.out; omega)]
        have i5 := IM5.out
        rw [hwc] at i5
        exact c_lists ways a5 n5 c5 aw N cw w7 (i5.keep E57.out) (IW5.out.keep E57.out)
      by_cases h0 : 0 < most
      · have h1 : ¬ most < (N : Int) := fun h => hm ⟨h0, h⟩
        clear hm
        go_wp2_with (go_at_call 15; (with_reducible refine LT.out.mono ?_); rintro e w8 ⟨rfl, E8⟩)
        go_returns
        exact ⟨rfl, ext_trans EF.out E8⟩
      · clear hm
        go_wp2_with (go_at_call 15; (with_reducible refine LT.out.mono ?_); rintro e w8 ⟨rfl, E8⟩)
        go_returns
        exact ⟨rfl, ext_trans EF.out E8⟩
end Go.Proofs.YthjpfplebbnbpaaGreat
