/- The walk of the law TrieOwn: whatever the rows, the order and the script, it returns true, and nothing old is touched. -/
import Derived.Test.YthjpfplebbnbpaaTAll
import Derived.Test.YthjpfplebbnbpaaMkd
namespace Go.Proofs.Ythjpfplebbnbpaa
open Go.ChangeShapes Go.WideShapes Go.ChangeAt Go.RowKit
theorem wayCut_zero (ways : List (List ByteArray)) : wayCut ways 0 = ways := by
  unfold wayCut
  rw [if_neg (by omega)]
set_option maxRecDepth 100000 in
set_option maxHeartbeats 8000000 in
theorem c_trieOwn (x : CaseV) (rows : List (List ByteArray)) (os : List Int) (ops : List OpM) (so : Option Addr) (sn sc : Nat) (w : World) (h : CaseAt w x rows os) (hs : OpsAt w so sn ops) :
    Calls Try.prog 5 #[x.v, .slice so sn sc] w fun e w' => e = .returned (.bool true) ∧ Ext w w' := by
  have AW := Lib.hid c_awake
  have GR : Hid (∀ w1, Calls Try.prog 7 #[x.v] w1 fun e w' => e = .returned (.bool (decide (400 < x.rn))) ∧ Ext w1 w') := fun w1 => c_great x w1
  have HC := Lib.hid h
  have HS := Lib.hid hs
  by_cases hg : 400 < x.rn ∨ 400 < sn
  · obtain ⟨g, hgg⟩ : ∃ g, decide (400 < x.rn) = g := ⟨_, rfl⟩
    rw [hgg] at GR
    have hgs : g = false → (400 : Int) < (sn : Int) := fun e => by
      rw [e] at hgg
      have := of_decide_eq_false hgg
      omega
    obtain ⟨ar0, ra, rn, rc, oa, on, oc⟩ := x
    unfold CaseV.v at GR ⊢
    dsimp only at GR ⊢
    clear h hs hg hgg
    go_enter Try.func5, Try.ntmps5
    go_upto_region 3 with (go_at_call 6; (with_reducible refine (AW.out _).mono ?_); rintro e w1 ⟨rfl, E1⟩)
    refine wp_gen (fun W1 hW1 => ?_)
    have e1 : Hid (Ext w W1) := by show Ext _ _; rw [hW1]; exact ext_trans (ext_alloc (Below.refl _ _) _) E1
    have x0 : W1.cell? ⟨w.heap.size, 0, none⟩ = some (.int .i64 ar0) := by rw [hW1]; exact keep E1 (by go_simp)
    have x1 : W1.cell? ⟨w.heap.size, 1, none⟩ = some (.slice ra rn rc) := by rw [hW1]; exact keep E1 (by go_simp)
    have x2 : W1.cell? ⟨w.heap.size, 2, none⟩ = some (.slice oa on oc) := by rw [hW1]; exact keep E1 (by go_simp)
    clear hW1
    cases g with
    | true =>
      clear hgs
      go_wp2_with (go_at_call 7; (with_reducible refine (GR.out _).mono ?_); rintro e w2 ⟨rfl, E2⟩)
      go_returns
      exact ⟨rfl, ext_trans e1.out E2⟩
    | false =>
      have hsi := hgs rfl
      clear hgs
      go_wp2_with (go_at_call 7; (with_reducible refine (GR.out _).mono ?_); rintro e w2 ⟨rfl, E2⟩)
      go_returns
      exact ⟨rfl, ext_trans e1.out E2⟩
  · have hg2 : x.rn ≤ 400 := by omega
    have hsn : sn ≤ 400 := by omega
    rw [decide_eq_false (by omega : ¬ 400 < x.rn)] at GR
    have hrl : rows.length = x.rn := h.rows.1
    have FR : Hid (∀ w1, Ext w w1 → Calls Try.prog 8 #[x.v] w1 fun e w' => Ext w1 w' ∧ ∃ p, e = .returned (.tuple #[.pointer p, .bool true]) ∧ (p = none ∨ ∃ (pt d : Nat) (ways : List (List ByteArray)), p = some ⟨pt, 0, none⟩ ∧ d ≤ 64 ∧ TrieV w' pt d ways ∧ Ways d ways ∧ ways.length ≤ 400)) := fun w1 h1 => (c_from x rows os w1 (HC.out.keep h1) hg2).mono fun e w' ⟨r1, r2⟩ => ⟨r1, by
      rcases r2 with rfl | ⟨ar, pt, ways, rfl, s1, s2, s3, _, _, s4, s5, s6, s7⟩
      · exact ⟨none, rfl, .inl rfl⟩
      · exact ⟨_, rfl, .inr ⟨pt, os.length, ways, rfl, by have := s3.len; omega, s4, s5, by have := (rowsM_facts ar rows).2.2; omega⟩⟩⟩
    obtain ⟨ar0, ra, rn, rc, oa, on, oc⟩ := x
    unfold CaseV.v at GR FR ⊢
    dsimp only at GR FR hrl ⊢
    have hsi : ¬ (400 : Int) < (sn : Int) := by omega
    clear h hs hg hg2
    go_enter Try.func5, Try.ntmps5
    go_upto_region 3 with (go_at_call 6; (with_reducible refine (AW.out _).mono ?_); rintro e w1 ⟨rfl, E1⟩)
    refine wp_gen (fun W1 hW1 => ?_)
    have e1 : Ext w W1 := by rw [hW1]; exact ext_trans (ext_alloc (Below.refl _ _) _) E1
    have x0 : W1.cell? ⟨w.heap.size, 0, none⟩ = some (.int .i64 ar0) := by rw [hW1]; exact keep E1 (by go_simp)
    have x1 : W1.cell? ⟨w.heap.size, 1, none⟩ = some (.slice ra rn rc) := by rw [hW1]; exact keep E1 (by go_simp)
    have x2 : W1.cell? ⟨w.heap.size, 2, none⟩ = some (.slice oa on oc) := by rw [hW1]; exact keep E1 (by go_simp)
    clear hW1
    go_upto_region 6 with (first
      | (go_at_call 7; (with_reducible refine (GR.out _).mono ?_); rintro e w2 ⟨rfl, E2⟩; have y0 := keep E2 x0; have y1 := keep E2 x1; have y2 := keep E2 x2)
      | (go_at_call 8; (with_reducible refine (FR.out _ (ext_trans e1 E2)).mono ?_); rintro e w3 ⟨E3, p, rfl, hp⟩))
    have eqn := nil_eqT
    have eqp := ptr_eqT
    have e3 : Ext w w3 := ext_trans e1 (ext_trans E2 E3)
    rcases hp with rfl | ⟨pt, d, ways, rfl, hd64, tv, hw, hN⟩
    · go_wp2
      go_returns
      exact ⟨rfl, e3⟩
    · have TV := Lib.hid tv
      have HW := Lib.hid hw
      have E3h := Lib.hid e3
      have WK : Hid (∀ W, Ext w3 W → Calls Try.prog 22 #[.pointer (some ⟨pt, 0, none⟩), .slice so sn sc] W (WkdPost d ways pt ops W)) := fun W hW => c_walked pt d ways ops so sn sc W (TV.out.ext hW) HW.out (HS.out.keep (ext_trans E3h.out hW)) hd64 (by omega)
      have OKR := Lib.hid (runM_ok HW.out (ops.map OpM.p))
      obtain ⟨sp, hsp⟩ : ∃ sp, runM d ways (ops.map OpM.p) = sp := ⟨_, rfl⟩
      unfold WkdPost at WK
      rw [hsp] at WK OKR
      clear tv hw x0 x1 x2 y0 y1 y2 E1 E2 E3 e1 e3 FR GR AW hsp
      have WL : Hid (∀ W, Ext w3 W → Calls Try.prog 28 #[.pointer (some ⟨pt, 0, none⟩), .int .i64 0] W fun e w' => ∃ a n c vs, e = .returned (.tuple #[.slice a n c, .bool true]) ∧ Ext W w' ∧ w'.ownsRow W.heap.size 33 1 (.slice a n c) n vs ∧ RowsAt W.heap.size w' vs ways ∧ AptV vs) := fun W hW => by
        have := c_lawWays pt d ways 0 W (TV.out.ext hW) HW.out hd64 (by omega)
        unfold WaysPost at this
        rwa [wayCut_zero] at this
      go_upto_region 9 with (go_at_call 28; (with_reducible refine (WL.out _ (Below.refl _ _)).mono ?_); rintro e w4 ⟨a1, n1, q1, vs1, rfl, E4, o1, r1, p1⟩)
      go_upto_region 10 with (go_at_call 28; (with_reducible refine (WL.out _ E4).mono ?_); rintro e w5 ⟨a2, n2, q2, vs2, rfl, E5, o2, r2, p2⟩)
      go_upto_region 13 with (go_at_call 22; (with_reducible refine (WK.out _ (ext_trans E4 E5)).mono ?_); rintro e w6 ⟨E6, rb, rfl, c6⟩)
      have TV6 : Hid (∀ W, Ext w6 W → TrieV W pt d ways) := fun W hW => TV.out.ext (ext_trans E4 (ext_trans E5 (ext_trans E6 hW)))
      have FO : Hid (∀ W a n c b, Ext w6 W → StrsAt W a n b → Calls Try.prog 27 #[.pointer (some ⟨pt, 0, none⟩), .slice a n c] W fun e w' => ∃ a' n' c' xs, e = .returned (.slice a' n' c') ∧ w'.ownsRow W.heap.size 9 1 (.slice a' n' c') n' xs ∧ Ext W w' ∧ n' ≤ 1000000) := fun W a n c b hW hb => (c_follow pt d ways b a n c W (TV6.out W hW) HW.out hb hd64 (by omega)).mono fun e w' ⟨a', n', c', xs, h1, h2, h3, _, h5⟩ => ⟨a', n', c', _, h1, h2, h3, h5⟩
      have KYx : ∃ ks : List ByteArray, ∀ W, Ext w6 W → Calls Try.prog 16 #[.pointer (some ⟨w5.heap.size, 0, none⟩)] W fun e w' => ∃ a n c, e = .returned (.slice a n c) ∧ w'.ownsRow W.heap.size 9 1 (.slice a n c) n (ks.map Value.string) ∧ Ext W w' ∧ n ≤ 1000000 := by
        by_cases hno : sp = [] ∨ endB sp = true
        · exact ⟨[], fun W hW => (c_keys_no _ pt _ rb sp W (c6.ext hW) hno).mono fun e w' ⟨a, n, c, h1, h2, h3, h4⟩ => ⟨a, n, c, h1, h2, h3, by simp at h4; omega⟩⟩
        · have hsne : sp ≠ [] := fun e => hno (.inl e)
          obtain ⟨A, B, hcs⟩ := OKR.out.st hsne
          have hle : sp.length ≤ d := by
            rcases snoc_cases sp with e | ⟨pre, ⟨f, t⟩, rfl⟩
            · exact absurd e hsne
            · have := (hcs.facts HW.out pre f t rfl).dep
              rw [List.length_append, List.length_singleton]
              omega
          exact ⟨keysOf ways sp, fun W hW => (c_keys _ pt _ d ways rb sp A B W (c6.ext hW) (TV6.out W hW) HW.out hcs (by
            cases h : endB sp with
            | false => rfl
            | true => exact absurd (.inr h) hno) hd64 hle).mono fun e w' ⟨a, n, c, h1, h2, h3, h4⟩ => ⟨a, n, c, h1, h2, h3, by rw [keysOf_len] at h4; omega⟩⟩
      obtain ⟨ks, ky⟩ := KYx
      have KY := Lib.hid ky
      have AO5 := Lib.hid (AOwn.rows r2 p2 (fun r hr => by
        have := HW.out.len r hr
        omega))
      have O1 := Lib.hid (And.intro o1 r1)
      have E6h := Lib.hid (And.intro E4 (And.intro E5 E6))
      have O2 := Lib.hid (And.intro o2 r2)
      have IT4 : Hid (ItemsAt w4 a1 n1 ways ∧ Ext w3 w4) := ⟨RowsAt.items o1 r1 (by have h1 := o1.1; have h2 := r1.1; omega), E4⟩
      clear ky o1 r1 p1 r2 p2 c6 E4 E5 o2
      have E46 : Hid (w4.heap.size ≤ w5.heap.size ∧ w5.heap.size ≤ w6.heap.size) := ⟨E6h.out.2.1.size, E6h.out.2.2.size⟩
      clear E6
      go_upto_region 16 with (first
        | (go_at_call 27; (with_reducible refine (FO.out w6 none 0 0 [] (Below.refl _ _) StrsAt.nil).mono ?_); rintro e w7 ⟨a7, n7, q7, x7, rfl, o7, E7, m7⟩)
        | (go_at_call 16; (with_reducible refine (KY.out w7 E7).mono ?_); rintro e w8 ⟨a8, n8, q8, rfl, o8, E8, m8⟩)
        | (go_at_call 16; (with_reducible refine (KY.out w8 (ext_trans E7 E8)).mono ?_); rintro e w9 ⟨a9, n9, q9, rfl, o9, E9, m9⟩; have E69 := ext_trans E7 (ext_trans E8 E9))
        | (go_at_call 27; (with_reducible refine (FO.out w9 a9 n9 q9 ks E69 (own_strs o9 (own_len o9).1)).mono ?_); rintro e w10 ⟨a10, n10, q10, x10, rfl, o10, E10, m10⟩)
        | (go_at_call 16; (with_reducible refine (KY.out w10 (ext_trans E69 E10)).mono ?_); rintro e w11 ⟨a11, n11, q11, rfl, o11, E11, m11⟩)
        | (go_at_call 27; (with_reducible refine (FO.out w11 none 0 0 [] (ext_trans E69 (ext_trans E10 E11)) StrsAt.nil).mono ?_); rintro e w12 ⟨a12, n12, q12, x12, rfl, o12, E12, m12⟩))
      refine wp_gen (fun W13 hW13 => ?_)
      have E13 : Ext w12 W13 := by rw [hW13]; exact ext_alloc (Below.refl _ _) _
      have z12 : w4.heap.size ≤ w12.heap.size := by
        have := E46.out.1
        have := E46.out.2
        have := E7.size
        have := E8.size
        have := E9.size
        have := E10.size
        have := E11.size
        have := E12.size
        omega
      obtain ⟨i0, hi, hz0, hz1, hz2⟩ := info_parts info_row
      have OB : Hid (W13.ownsRow w4.heap.size 33 1 (.slice (some ⟨w12.heap.size, 0, none⟩) 5 5) 5 [.slice a7 n7 q7, .slice a8 n8 q8, .slice a10 n10 q10, .slice a11 n11 q11, .slice a12 n12 q12]) := by
        rw [hW13]
        exact built_own w12 w4.heap.size [.slice a7 n7 q7, .slice a8 n8 q8, .slice a10 n10 q10, .slice a11 n11 q11, .slice a12 n12 q12] 33 z12 (by unfold maxLen; simp)
      have AO13 : Hid (AOwn W13 w4.heap.size ([(⟨.slice a7 n7 q7, n7, x7⟩ : LRow), ⟨.slice a8 n8 q8, n8, ks.map Value.string⟩, ⟨.slice a10 n10 q10, n10, x10⟩, ⟨.slice a11 n11 q11, n11, ks.map Value.string⟩, ⟨.slice a12 n12 q12, n12, x12⟩] ++ rowsL vs2 ways)) := by
        have y6 : w4.heap.size ≤ w6.heap.size := Nat.le_trans E46.out.1 E46.out.2
        have y7 := Nat.le_trans y6 E7.size
        have y9 := Nat.le_trans (Nat.le_trans y7 E8.size) E9.size
        have y10 := Nat.le_trans y9 E10.size
        have h7 := (AO5.out.ext E6h.out.2.2).snoc E7 o7 m7 y6
        have h8 := h7.snoc E8 o8 m8 y7
        have h10 := (h8.ext E9).snoc E10 o10 m10 y9
        have h11 := h10.snoc E11 o11 m11 y10
        have h12 := (h11.snoc E12 o12 m12 (Nat.le_trans y10 E11.size)).ext E13
        simp only [List.append_assoc, List.cons_append, List.nil_append] at h12
        exact h12.swap
      have E513 : Ext w5 W13 := ext_trans E6h.out.2.2 (ext_trans E7 (ext_trans E8 (ext_trans E9 (ext_trans E10 (ext_trans E11 (ext_trans E12 E13))))))
      have SO := Lib.hid (own_src (up_ext O2.out.1 E513))
      have ON := Lib.hid (own_nil O2.out.1)
      have OL : Hid (vs2.length = n2 * 1) := O2.out.1.1
      have OO := Lib.hid O2.out.2.one
      have hn2 : n2 = ways.length := by
        have h1 := O2.out.1.1
        have h2 := O2.out.2.1
        omega
      have B1 : Hid (5 + n2 ≤ maxLen) := by show _ ≤ _; unfold maxLen; omega
      have B2 : Hid ((5 + n2) * 24 ≤ 140737488355328) := by show _ ≤ _; omega
      have B3 : Hid (w4.heap.size ≤ W13.heap.size) := Nat.le_trans z12 E13.size
      have E413 : Hid (Ext w4 W13) := ext_trans E6h.out.2.1 E513
      have Z12 := Lib.hid z12
      have HN2 := Lib.hid hn2
      have hnm : n2 ≤ 400 := by omega
      clear o7 o8 o9 o10 o11 o12 E7 E8 E9 E69 E10 E11 E12 E13 hW13 E513 z12 hn2 m7 m8 m9 m10 m11 m12 KY FO TV6 AO5
      go_upto_region 17 with (at_builtin; refine wpList_append_any rfl _ _ 22 rfl w4.heap.size 33 i0 (.slice none 0 0) 1 24 Try.underlying22 hi hz0 hz1 hz2 rfl (by decide) (.slice (some ⟨w12.heap.size, 0, none⟩) 5 5) 5 [.slice a7 n7 q7, .slice a8 n8 q8, .slice a10 n10 q10, .slice a11 n11 q11, .slice a12 n12 q12] rfl OB.out a2 n2 q2 vs2 rfl ON.out OL.out SO.out OO.out B1.out B2.out B3.out ?_; intro v16 w16 own16 gr16; obtain ⟨a16, c16, rfl, _⟩ := own_form own16)
      have AO : Hid (AOwn w16 w4.heap.size ([(⟨.slice a7 n7 q7, n7, x7⟩ : LRow), ⟨.slice a8 n8 q8, n8, ks.map Value.string⟩, ⟨.slice a10 n10 q10, n10, x10⟩, ⟨.slice a11 n11 q11, n11, ks.map Value.string⟩, ⟨.slice a12 n12 q12, n12, x12⟩] ++ rowsL vs2 ways)) := AO13.out.grown gr16 (fun l hl => own_apart (AO13.out.own l hl) OB.out (by decide))
      have E416 : Hid (Ext w4 w16) := ext_ownB E413.out gr16 (fun g e => by cases e; exact Z12.out)
      have HALL : Hid (w16.ownsRow w4.heap.size 33 1 (.slice a16 (5 + n2) c16) (5 + n2) (([(⟨.slice a7 n7 q7, n7, x7⟩ : LRow), ⟨.slice a8 n8 q8, n8, ks.map Value.string⟩, ⟨.slice a10 n10 q10, n10, x10⟩, ⟨.slice a11 n11 q11, n11, ks.map Value.string⟩, ⟨.slice a12 n12 q12, n12, x12⟩] ++ rowsL vs2 ways).map (·.v))) := by
        rw [List.map_append, rowsL_v O2.out.2.1]
        exact own16
      obtain ⟨M, hM⟩ : ∃ M, 5 + n2 = M := ⟨_, rfl⟩
      obtain ⟨ls, hls⟩ : ∃ ls : List LRow, ([(⟨.slice a7 n7 q7, n7, x7⟩ : LRow), ⟨.slice a8 n8 q8, n8, ks.map Value.string⟩, ⟨.slice a10 n10 q10, n10, x10⟩, ⟨.slice a11 n11 q11, n11, ks.map Value.string⟩, ⟨.slice a12 n12 q12, n12, x12⟩] ++ rowsL vs2 ways) = ls := ⟨_, rfl⟩
      have hMm : M ≤ 500 := by omega
      rw [hls] at AO HALL
      rw [hM] at HALL ⊢
      have HLEN : Hid (ls.length = M) := by
        have := HALL.out.1
        rw [List.length_map] at this
        show _ = _
        omega
      clear hls hM own16 gr16 OB AO13 E413 SO ON OL OO B1 B2 B3 Z12 HN2 O2 hnm hi hz0 hz1 hz2 i0 OKR E46
      have HOUT : Hid (∀ b, (Value.slice a16 M c16).ownBlock = some b → ¬ Blocks ls b) := by
        rintro b e ⟨l, hl, e2⟩
        rcases own_apart HALL.out (AO.out.own l hl) (by decide) with h | h
        · rw [h] at e
          cases e
        · exact h (e.trans e2.symm)
      have BLO : Hid (∀ b, Blocks ls b → w4.heap.size ≤ b) := fun b ⟨l, hl, e⟩ => ((AO.out.own l hl).lt b e).1
      go_wp2
      go_loopw [13] (fun v13 wj => ∃ i : Nat, i ≤ M ∧ v13 = .int .i64 (i : Nat) ∧ Mkd w16 w4.heap.size ls i wj) (fun v13 _ => M - (intOf v13).toNat)
      case atStart => exact ⟨0, Nat.zero_le _, rfl, Mkd.start AO.out⟩
      case round =>
        obtain ⟨i, hi, rfl, hm⟩ := hrel
        have HM := Lib.hid hm
        have hrow := hm.but.own HALL.out HOUT.out
        by_cases hlt : i < M
        · have hlti : (i : Int) < (M : Int) := by omega
          have hi6 : i ≤ 1000000 := by omega
          obtain ⟨l, hl⟩ : ∃ l, ls[i]? = some l := ⟨_, List.getElem?_eq_getElem (by rw [HLEN.out]; exact hlt)⟩
          have hlm := List.mem_of_getElem? hl
          obtain ⟨gr, hgr, rc⟩ := row_val hrow hl
          have GNL : Hid (¬ l.v.ownBlock = some gr) := fun e => HOUT.out gr (by rw [hgr]; rfl) ⟨l, hlm, e⟩
          obtain ⟨al, cl, hlv, _⟩ := own_form (AO.out.own l hlm)
          rw [hlv] at rc
          have HLV := Lib.hid hlv
          have HL := Lib.hid hl
          have RC := Lib.hid rc
          have hnl := AO.out.small l hlm
          have LXL : Hid (l.xs.length = l.n) := by
            have := (AO.out.own l hlm).1
            show _ = _
            omega
          obtain ⟨ln, hln⟩ : ∃ ln, l.n = ln := ⟨_, rfl⟩
          have HLN := Lib.hid hln
          rw [hln] at hlv rc hnl HLV RC LXL
          rw [hgr]
          clear hm hl hlm hrow hlv rc hgr hln
          go_upto_region 21 with (fail)
          obtain ⟨wo, rfl⟩ : ∃ x : World, x = wr := ⟨_, rfl⟩
          go_loopw [14] (fun v14 wj => ∃ k : Nat, k ≤ ln ∧ v14 = .int .i64 (k : Nat) ∧ MkdR wo w4.heap.size l i k wj) (fun v14 _ => ln - (intOf v14).toNat)
          case atStart => exact ⟨0, Nat.zero_le _, rfl, MkdR.start (HM.out.todo i l (Nat.le_refl _) HL.out)⟩
          case round =>
            obtain ⟨k, hk, rfl, hr⟩ := hrel
            have HR := Lib.hid hr
            have rc := hr.but.cell GNL.out RC.out
            by_cases hkl : k < ln
            · have hkli : (k : Int) < (ln : Int) := by omega
              have hrr := hr.row
              rw [HLV.out, HLN.out] at hrr
              obtain ⟨gl, cl', e1, _⟩ := own_formS hrr (by omega)
              cases e1
              obtain ⟨u, hu⟩ : ∃ u, (partV i k l.xs)[k]? = some u := ⟨_, List.getElem?_eq_getElem (by have := hrr.1; omega)⟩
              have cl1 := hrr.cells (g := gl) rfl k u hu
              rw [Addr.add_lit, Nat.zero_add] at cl1
              have fl1 : wr.frozen? ⟨gl, k, none⟩ = false := hrr.frozenAt _
              clear hr hrr hu
              go_wp2
              go_region_with (go_at_call 29; (with_reducible refine (c_mark i _ hi6).mono ?_); rintro e w20 ⟨rfl, hw20⟩; obtain rfl := hw20.symm)
              all_goals
                go_wp2
                go_roundw
                case rel => exact ⟨k + 1, by omega, by go_num, (MkdR.step HR.out (by rw [HLN.out]; exact HLV.out) (by rw [LXL.out]; exact hkl)).ext (ext_drew (Below.refl _ _))⟩
                case measure => simp [intOf]; omega
            · obtain rfl : k = ln := by omega
              have hge : ¬ (k : Int) < (k : Int) := by omega
              have NX := Lib.hid (Mkd.next AO.out.apart HM.out HL.out (by rw [HLN.out]; exact HR.out))
              clear hr
              go_wp2
              go_roundw
              case rel => exact ⟨i + 1, by omega, by go_num, NX.out⟩
              case measure => simp [intOf]; omega
        · obtain rfl : i = M := by omega
          have hge : ¬ (i : Int) < (i : Int) := by omega
          have hmL : Mkd w16 w4.heap.size ls ls.length wr := by rw [HLEN.out]; exact hm
          have ao2 := hmL.all AO.out
          have E4r : Hid (Ext w4 wr) := ext_of_but E416.out hm.but (fun b hb hh => by have := BLO.out b hh; omega)
          have hall2 := hrow
          rw [← mkdL_v] at hall2
          have xs2 : ∀ j l, (mkdL ls)[j]? = some l → l.xs = fullV l.n (markT j) := fun j l hj => by
            obtain ⟨l', _, rfl⟩ := mkdL_of hj
            rfl
          have len2 : (mkdL ls).length = i := by
            have := HLEN.out
            simp [mkdL, this]
          obtain ⟨ls2, hls2⟩ : ∃ ls2, mkdL ls = ls2 := ⟨_, rfl⟩
          rw [hls2] at ao2 hall2 xs2 len2
          have AO2 := Lib.hid ao2
          have HALL2 := Lib.hid hall2
          have XS2 := Lib.hid xs2
          have LEN2 := Lib.hid len2
          obtain ⟨wd, rfl⟩ : ∃ x : World, x = wr := ⟨_, rfl⟩
          have HOUT2 : Hid (∀ b, (Value.slice a16 i c16).ownBlock = some b → ¬ Blocks ls2 b) := by
            rintro b e ⟨l, hl, e2⟩
            rcases own_apart HALL2.out (AO2.out.own l hl) (by decide) with h | h
            · rw [h] at e
              cases e
            · exact h (e.trans e2.symm)
          have BLO2 : Hid (∀ b, Blocks ls2 b → w4.heap.size ≤ b) := fun b ⟨l, hl, e⟩ => ((AO2.out.own l hl).lt b e).1
          have HLT2 : Hid (∀ l ∈ ls2, ∀ b, l.v.ownBlock = some b → b < wd.heap.size) := fun l hl b e => ((AO2.out.own l hl).lt b e).2
          clear hm hrow ao2 hall2 xs2 len2 hls2 AO HALL HLEN HOUT BLO hmL E416
          obtain ⟨M, rfl⟩ : ∃ m : Nat, m = i := ⟨_, rfl⟩
          have hlo4 : Hid (w4.heap.size ≤ wd.heap.size) := E4r.out.size
          obtain ⟨lo, hlo⟩ : ∃ lo, w4.heap.size = lo := ⟨_, rfl⟩
          rw [hlo] at AO2 HALL2 BLO2 hlo4
          have HLO := Lib.hid hlo
          obtain ⟨j0, jj, jj0, jj1, jj2⟩ := info_parts info_row
          obtain ⟨i0, hi0, hz0, hz1, hz2⟩ := info_parts info_str
          clear hlo hge
          go_upto_region 24 with (fail)
          go_wp2
          go_loopw [15, 16] (fun v15 v16 wj => ∃ i : Nat, i ≤ M ∧ v16 = .int .i64 (i : Nat) ∧ Gone wd lo 9 1 33 ls2 9 (fun i => ksOf (elT i) 9) i v15 wj) (fun _ v _ => M - (intOf v).toNat)
          case atStart => exact ⟨0, Nat.zero_le _, rfl, Gone.start AO2.out.own⟩
          case round =>
            obtain ⟨i, hiN, rfl, hG⟩ := hrel
            have hrow2 := hG.but.own HALL2.out HOUT2.out
            have HG := Lib.hid hG
            obtain ⟨vs, hvs, hdone⟩ := hG.done
            obtain ⟨a3, c3, rfl, _⟩ := own_form hvs
            have HVS := Lib.hid hvs
            have HDN := Lib.hid hdone
            by_cases hlt : i < M
            · obtain ⟨l, hl⟩ : ∃ l, ls2[i]? = some l := ⟨_, List.getElem?_eq_getElem (by rw [LEN2.out]; exact hlt)⟩
              have hlm := List.mem_of_getElem? hl
              obtain ⟨gr, hgr, rc⟩ := row_val hrow2 hl
              obtain ⟨al, cl, hlv, _⟩ := own_form (AO2.out.own l hlm)
              rw [hlv] at rc
              have HLV := Lib.hid hlv
              have HL := Lib.hid hl
              have hki : (i : Int) < (M : Int) := by omega
              have hi6 : i ≤ 1000000 := by omega
              have hgs := GrowSt.start (hG.todo i l (Nat.le_refl _) hl)
              rw [hlv] at hgs
              have HGS := Lib.hid hgs
              have hnl := AO2.out.small l hlm
              rw [hgr]
              clear hG hvs hdone hl hrow2 hlv hgs hlm hgr
              go_upto_region 30 with (fail)
              obtain ⟨wo, rfl⟩ : ∃ x : World, x = wr := ⟨_, rfl⟩
              go_loopw [17, 18] (fun v5 v6 wj => ∃ k : Nat, k ≤ 9 ∧ v6 = .int .i64 (k : Int) ∧ GrowSt wo lo 9 1 l k (ksOf (elT i) k) v5 wj) (fun _ v _ => 9 - (intOf v).toNat)
              case atStart => exact ⟨0, by omega, rfl, HGS.out⟩
              case round =>
                obtain ⟨k, hk, rfl, hS⟩ := hrel
                obtain ⟨a5, c5, rfl, _⟩ := own_form hS.row
                have HS := Lib.hid hS
                have hbw : lo ≤ wr.heap.size := Nat.le_trans hlo4.out (Nat.le_trans HG.out.but.size hS.but.size)
                have HBW := Lib.hid hbw
                clear hS hbw
                by_cases hk9 : k < 9
                · have hkk : (k : Int) < 9 := by omega
                  have B1 : Hid (l.n + k + 1 ≤ maxLen) := by show _ ≤ _; unfold maxLen; omega
                  have B2 : Hid ((l.n + k + 1) * 16 ≤ 140737488355328) := by show _ ≤ _; omega
                  have MK : Hid (∀ W, Calls Try.prog 29 #[.int .i64 (i : Nat)] W fun e w' => e = .returned (.string (markT i)) ∧ w' = W) := fun W => c_mark i W hi6
                  have EL : Hid (elT i k = [.string (markT i ++ ⟨#[43]⟩)]) := rfl
                  have ADD : Hid (∀ W : World, (Op.stringOp .add (markT i) ⟨#[43]⟩).run Try.prog W = .ok (.string (markT i ++ ⟨#[43]⟩)) W) := fun W => run_string_add_sum W _ _ (by
                    have h1 := markT_size i
                    have h2 : (⟨#[43]⟩ : ByteArray).size = 1 := rfl
                    omega)
                  obtain ⟨mi, hmi⟩ : ∃ mi, markT i = mi := ⟨_, rfl⟩
                  rw [hmi] at MK EL ADD
                  obtain ⟨yi, hyi⟩ : ∃ yi, mi ++ (⟨#[43]⟩ : ByteArray) = yi := ⟨_, rfl⟩
                  rw [hyi] at EL ADD
                  clear hmi hyi
                  have HRW := Lib.hid HS.out.row
                  go_wp2_with (first
                    | (go_at_call 29; (with_reducible refine (MK.out _).mono ?_); rintro e w20 ⟨rfl, hw20⟩; obtain rfl := hw20.symm; have hadd := ADD.out wr)
                    | (at_builtin; clear hadd; refine wpList_append_one _ rfl _ _ 33 rfl lo 9 i0 (.string ⟨#[]⟩) 1 16 Try.underlying33 hi0 hz0 hz1 hz2 rfl (by decide) a5 (l.n + k) c5 (l.xs ++ ksOf (elT i) k) rfl (HS.out.row.alloc _) ⟨wr.heap.size, 0, none⟩ 1 [.string yi] rfl rfl (news1 _ _ _) (fun u hu => by cases List.mem_singleton.1 hu; rfl) B1.out B2.out (size_alloc_le HBW.out) ?_; intro g7 p7 w7 r1 r2 r3 r4))
                  have hst := GrowSt.step HS.out r1 r2 r3 r4
                  rw [← EL.out, ← ksOf_succ] at hst
                  have HST := Lib.hid hst
                  clear hst r1 r2 r3 r4
                  go_roundw
                  case rel => exact ⟨k + 1, by omega, by go_num, HST.out⟩
                  case measure => simp [intOf]; omega
                · obtain rfl : k = 9 := by omega
                  have hlong : wr.ownsRow wd.heap.size 33 1 (.slice a3 i c3) i vs := HVS.out.kept HS.out.but (own_apart HVS.out (HG.out.todo i l (Nat.le_refl _) HL.out) (by decide))
                  have HLG := Lib.hid hlong
                  have HSZ : Hid (wd.heap.size ≤ wr.heap.size) := Nat.le_trans HG.out.but.size HS.out.but.size
                  have B1 : Hid (i + 1 ≤ maxLen) := by show _ ≤ _; unfold maxLen; omega
                  have B2 : Hid ((i + 1) * 24 ≤ 140737488355328) := by show _ ≤ _; omega
                  clear hlong
                  go_wp2_with (at_builtin; go_loud (refine wpList_append_one _ rfl _ _ 22 rfl wd.heap.size 33 j0 (.slice none 0 0) 1 24 Try.underlying22 jj jj0 jj1 jj2 rfl (by decide) a3 i c3 vs rfl (HLG.out.alloc _) ⟨wr.heap.size, 0, none⟩ 1 [.slice a5 (l.n + 9) c5] rfl rfl (news1 _ _ _) (fun u hu => by cases List.mem_singleton.1 hu; rfl) B1.out B2.out (size_alloc_le HSZ.out) ?_); intro g7 p7 w7 r1 r2 r3 r4)
                  have hgo := Gone.next (by decide) (by decide) AO2.out.apart HLT2.out HG.out HL.out HS.out rfl HVS.out HDN.out r1 r2
                  have HGO := Lib.hid hgo
                  clear hgo r1 r2 r3 r4
                  go_roundw
                  case rel => exact ⟨i + 1, by omega, by go_num, HGO.out⟩
                  case measure => simp [intOf]; omega
            · obtain rfl : i = M := by omega
              have HROW2 := Lib.hid hrow2
              have hge : ¬ (i : Int) < (i : Int) := by omega
              clear hG hvs hdone hrow2
              go_upto_region 35 with (fail)
              obtain ⟨wp, rfl⟩ : ∃ x : World, x = wr := ⟨_, rfl⟩
              clear hge
              go_loopw [19] (fun v wj => ∃ s : Nat, s ≤ i ∧ v = .int .i64 (s : Int) ∧ ∃ q, wj = wp.drewN q) (fun v _ => i - (intOf v).toNat)
              case atStart => exact ⟨0, by omega, rfl, 0, rfl⟩
              case round =>
                obtain ⟨s, hst, rfl, q0, hq0⟩ := hrel
                have Q0 := Lib.hid hq0
                have er : Ext wp wr := by rw [hq0]; exact ext_drewN (Below.refl _ _) q0
                have ER := Lib.hid er
                clear hq0
                by_cases hlt : s < i
                · obtain ⟨l, hl⟩ : ∃ l, ls2[s]? = some l := ⟨_, List.getElem?_eq_getElem (by rw [LEN2.out]; exact hlt)⟩
                  have hlm := List.mem_of_getElem? hl
                  obtain ⟨gr, hgr, rc0⟩ := row_val HROW2.out hl
                  obtain ⟨al, cl, hlv, _⟩ := own_form (AO2.out.own l hlm)
                  rw [hlv] at rc0
                  have hnl : l.n ≤ 1000000 := AO2.out.small l hlm
                  obtain ⟨gg, v, hgg, hv, vc0⟩ := row_get HVS.out hlt
                  obtain ⟨⟨gv, cv, rfl⟩, hrv, _⟩ := HDN.out s l v hlt hl hv
                  have HRV := Lib.hid hrv
                  have RC := Lib.hid rc0
                  have VC := Lib.hid vc0
                  have hki : (s : Int) < (i : Int) := by omega
                  have hs6 : s ≤ 1000000 := by omega
                  have XSL : Hid (l.xs = fullV l.n (markT s)) := XS2.out s l hl
                  have OLD : Hid (∀ k, k < l.n → ∃ g, al = some ⟨g, 0, none⟩ ∧ wp.cell? ⟨g, k, none⟩ = some (.string (markT s))) := fun k hk => by
                    have hr := AO2.out.own l hlm
                    rw [hlv] at hr
                    obtain ⟨g, p, e, _⟩ := own_formS hr (by omega)
                    cases e
                    refine ⟨g, rfl, HG.out.old s l hlt hl g k _ (by rw [hlv]; rfl) ?_⟩
                    rw [XSL.out]
                    unfold fullV
                    rw [List.getElem?_replicate, if_pos hk]
                  have MK : Hid (∀ W, Calls Try.prog 29 #[.int .i64 (s : Nat)] W fun e w' => e = .returned (.string (markT s)) ∧ w' = W) := fun W => c_mark s W hs6
                  have NEW1 : Hid (∀ k, k < l.n → wp.cell? ⟨gv, k, none⟩ = some (.string (markT s))) := fun k hk => by
                    have := HRV.out.cells (g := gv) rfl k (.string (markT s)) (by
                      rw [XSL.out, List.getElem?_append_left (by unfold fullV; simpa using hk)]
                      unfold fullV
                      rw [List.getElem?_replicate, if_pos hk])
                    rwa [Addr.add_lit, Nat.zero_add] at this
                  have NEW2 : Hid (∀ q, q < 9 → wp.cell? ⟨gv, l.n + q, none⟩ = some (.string (markT s ++ ⟨#[43]⟩))) := fun q hq => by
                    have := grown_cell HRV.out (elT_len s) hq (j := 0) (by omega) rfl
                    simpa using this
                  have ADD : Hid (∀ W : World, (Op.stringOp .add (markT s) ⟨#[43]⟩).run Try.prog W = .ok (.string (markT s ++ ⟨#[43]⟩)) W) := fun W => run_string_add_sum W _ _ (by
                    have h1 := markT_size s
                    have h2 : (⟨#[43]⟩ : ByteArray).size = 1 := rfl
                    omega)
                  obtain ⟨mi, hmi⟩ : ∃ mi, markT s = mi := ⟨_, rfl⟩
                  rw [hmi] at MK OLD NEW1 NEW2 ADD
                  obtain ⟨yi, hyi⟩ : ∃ yi, mi ++ (⟨#[43]⟩ : ByteArray) = yi := ⟨_, rfl⟩
                  rw [hyi] at NEW2 ADD
                  clear hl hv hrv hlm hlv rc0 vc0 hmi hyi XSL
                  rw [hgr, hgg]
                  have rc := keep er RC.out
                  have vc := keep er VC.out
                  clear er
                  go_upto_region 38 with (fail)
                  go_loopw [20] (fun v wj => ∃ k : Nat, k ≤ l.n + 9 ∧ v = .int .i64 (k : Int) ∧ ∃ q, wj = wp.drewN q) (fun v _ => l.n + 9 - (intOf v).toNat)
                  case atStart => exact ⟨0, by omega, rfl, _, Q0.out⟩
                  clear rc vc Q0 ER
                  case round =>
                    obtain ⟨k, hk, rfl, q0, hq0⟩ := hrel
                    have Q0 := Lib.hid hq0
                    have er : Ext wp wr := by rw [hq0]; exact ext_drewN (Below.refl _ _) q0
                    have ER := Lib.hid er
                    have rc := keep er RC.out
                    have vc := keep er VC.out
                    clear hq0
                    by_cases hkn : k < l.n
                    · obtain ⟨g, hal, cc0⟩ := OLD.out k hkn
                      subst hal
                      have cc := keep er cc0
                      have cd := keep er (NEW1.out k hkn)
                      have hk1 : (k : Int) < (l.n : Int) := by omega
                      have hk2 : ¬ (l.n : Int) ≤ (k : Int) := by omega
                      have hk3 : (k : Int) < (l.n : Int) + 9 := by omega
                      have hq1 : decide ((k : Int) < (l.n : Int)) = true := decide_eq_true hk1
                      have hq2 : decide (l.n ≤ k) = false := decide_eq_false (by omega)
                      clear cc0 er
                      go_wp2
                      go_quiet ((go_at_call 29; exact Calls.quiet_of_same (MK.out _)))
                      go_wp2
                      go_roundw
                      case rel => exact ⟨k + 1, by omega, by go_num, _, by rw [Q0.out, World.drewN_drewN]⟩
                      case measure => simp [intOf]; omega
                    · by_cases hk9 : k < l.n + 9
                      · obtain ⟨q, rfl⟩ : ∃ q, k = l.n + q := ⟨k - l.n, by omega⟩
                        have cc := keep er (NEW2.out q (by omega))
                        have hk1 : ¬ (l.n : Int) + (q : Int) < (l.n : Int) := by omega
                        have hk2 : (l.n : Int) ≤ (l.n : Int) + (q : Int) := by omega
                        have hk3 : (l.n : Int) + (q : Int) < (l.n : Int) + 9 := by omega
                        have hk4 : (0 : Int) ≤ (l.n : Int) + (q : Int) := by omega
                        have htn : ((l.n : Int) + (q : Int)).toNat = l.n + q := by omega
                        have hq1 : decide ((l.n : Int) + (q : Int) < (l.n : Int)) = false := decide_eq_false hk1
                        have hq2 : decide ((l.n : Int) ≤ (l.n : Int) + (q : Int)) = true := decide_eq_true hk2
                        have hadd := ADD.out
                        clear er
                        go_wp2
                        go_quiet ((go_at_call 29; exact Calls.quiet_of_same (MK.out _)))
                        go_wp2
                        go_roundw
                        case rel => exact ⟨l.n + q + 1, by omega, by go_num, _, by rw [Q0.out, World.drewN_drewN]⟩
                        case measure => simp [intOf]; omega
                      · obtain rfl : k = l.n + 9 := by omega
                        have hge : ¬ (l.n : Int) + 9 < (l.n : Int) + 9 := by omega
                        clear er
                        go_wp2
                        go_roundw
                        case rel => exact ⟨s + 1, by omega, by go_num, _, Q0.out⟩
                        case measure => simp [intOf]; omega
                · obtain rfl : s = i := by omega
                  have hge : ¬ (s : Int) < (s : Int) := by omega
                  have E4p : Ext w4 wr := ext_trans (ext_of_but E4r.out HG.out.but (fun b hb hh => by
                    have h1 := BLO2.out b hh
                    have h2 := HLO.out
                    omega)) ER.out
                  have E4P := Lib.hid E4p
                  clear E4p er
                  go_upto_region 43 with (go_at_call 28; (with_reducible refine (WL.out _ (ext_trans IT4.out.2 E4P.out)).mono ?_); rintro e w20 ⟨a9, n9, q9, vs9, rfl, E20, o9, r9, p9⟩)
                  have LS : Hid (Calls Try.prog 30 #[.slice a9 n9 q9, .slice a1 n1 q1] w20 fun e w' => e = .returned (.bool true) ∧ Ext w20 w') := c_lists ways a9 n9 q9 a1 n1 q1 w20 (RowsAt.items o9 r9 (by have h1 := o9.1; have h2 := r9.1; omega)) (IT4.out.1.keep (ext_trans E4P.out E20))
                  clear o9 r9 p9
                  go_wp2_with (go_at_call 30; (with_reducible refine LS.out.mono ?_); rintro e w21 ⟨rfl, E21⟩)
                  go_returns
                  exact ⟨rfl, ext_trans E3h.out (ext_trans IT4.out.2 (ext_trans E4P.out (ext_trans E20 E21)))⟩
end Go.Proofs.Ythjpfplebbnbpaa
