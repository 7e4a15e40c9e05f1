/- The calls of tuple.Base that add to it: Add, Declare. -/
import Derived.Test.YtpgbenijjodoeaaGreatG5
namespace Go.Proofs.YtpgbenijjodoeaaGreat
open Go.ChangeShapes Go.WideShapes Go.ChangeAt Go.RowKit
def arOf (f : RelM) (k : ByteArray) (t : List ByteArray) : Nat := match f k with
  | some x => x.2.1
  | none => t.length
def rsOf (f : RelM) (k : ByteArray) : List (List ByteArray) := match f k with
  | some x => x.2.2
  | none => []
def BAdd (lo bb : Nat) (f : RelM) (k : ByteArray) (t : List ByteArray) (w : World) (e : Ending) (w' : World) : Prop := (∃ b q, e = .returned (.tuple #[.bool b, .int .i64 q]) ∧ (q = 0 → ∃ pb, BaseV w' lo bb (updF f k (pb, arOf f k t, putRow (rsOf f k) t)) ∧ BMove bb f (updF f k (pb, arOf f k t, putRow (rsOf f k) t)) w w' ∧ t.length = arOf f k t ∧ mayRow t = true)) ∧ ButS (BaseBl w bb f) w w'
theorem BaseV.fin {w : World} {lo bb : Nat} {f f1 : RelM} {k : ByteArray} {x : Nat × Nat × List (List ByteArray)} (h : BaseR w lo bb (updF f1 k x)) (m : BaseMp w lo bb (updF (fun k => (f k).map fun x => x.1) k x.1)) (h1 : f1 = f ∨ ∃ y, f1 = updF f k y) : BaseV w lo bb (updF f k x) := by
  have e : updF f1 k x = updF f k x := by
    rcases h1 with rfl | ⟨y, rfl⟩
    · rfl
    · funext z
      unfold updF
      split <;> rfl
  rw [e] at h
  refine ⟨h, ?_⟩
  have e2 : (fun z => (updF f k x z).map fun x => x.1) = updF (fun k => (f k).map fun x => x.1) k x.1 := by
    funext z
    unfold updF
    split <;> rfl
  rw [e2]
  exact m
theorem upd_upd {α : Type} (f : ByteArray → Option α) (k : ByteArray) (x y : α) : updF (updF f k x) k y = updF f k y := by
  funext z
  unfold updF
  split <;> rfl
theorem add_cases (rs : List (List ByteArray)) (t : List ByteArray) (hm : mayRow t = true) : addErr t.length rs t = (if 65536 ≤ rs.length ∧ foundB rs t = false then 4 else 0) := by
  unfold addErr
  rw [if_neg (by simp), if_neg (by simp [hm])]
set_option maxRecDepth 100000 in
set_option maxHeartbeats 4000000 in
theorem c_badd (lo bb : Nat) (f : RelM) (k : ByteArray) (t : List ByteArray) (a : Option Addr) (n c : Nat) (w : World) (h : BaseV w lo bb f) (ht : StrsAt w a n t) (hnil : a = none → n = 0 ∧ c = 0) (hn1 : n ≤ 8796093022207) :
    Calls Tryz.prog 23 #[.pointer (some ⟨bb, 0, none⟩), .string k, .slice a n c] w (BAdd lo bb f k t w) := by
  have H := Lib.hid h
  have HT := Lib.hid ht
  have HNIL := Lib.hid hnil
  have HLEN : Hid (t.length = n) := ht.2.1
  obtain ⟨mb, h1, hl⟩ := h.look k
  obtain ⟨n0, cn⟩ := h.r.n
  obtain ⟨bn, hbn⟩ : ∃ b, namedB k = b := ⟨_, rfl⟩
  have NM := Lib.hid (c_named k w)
  rw [hbn] at NM
  have NMR := Lib.hid (fun (q1 : 1 = 1) => q1)
  clear h ht hnil hbn NMR
  cases bn with
  | false =>
    clear hl
    go_enter Tryz.func23, Tryz.ntmps23
    go_wp2_with (go_at_call 42; (with_reducible refine NM.out.mono ?_); rintro e w1 ⟨rfl, hw1⟩; obtain rfl := hw1.symm)
    go_ret2
    exact ⟨⟨_, _, rfl, fun q => by cases q⟩, ButS.refl _ _⟩
  | true =>
    cases hf : f k with
    | none =>
      rw [hf] at hl
      have HF := Lib.hid hf
      have HA0 : Hid (arOf f k t = n ∧ rsOf f k = []) := ⟨by unfold arOf; rw [hf]; exact HLEN.out, by unfold rsOf; rw [hf]⟩
      have hl1 : (Instr.lookup 69 (.map (some mb)) (.string k) false).run Tryz.prog w = .ok (.pointer none) w := hl
      clear hl hf
      by_cases h64 : n ≤ 64
      · obtain ⟨pb, hpb⟩ : ∃ pb, w.heap.size = pb := ⟨_, rfl⟩
        have HPB := Lib.hid hpb
        have NR := Lib.hid (c_newRows2 n h64 w)
        rw [hpb] at NR
        clear hpb
        have hnn : ((n : Int) != (n : Int)) = false := by simp
        have P0 : Hid (∀ W, RowsV W (pb + 1) pb n [] → Ty W pb 99 → itemB W pb = none → Ext w W → BaseR W lo bb (updF f k (pb, n, [])) ∧ BaseMp W lo bb (fun k => (f k).map fun x => x.1) ∧ StrsAt W a n t ∧ BMove bb f (updF f k (pb, n, [])) w W) := fun W q1 q2 q3 q4 => ⟨(H.out.r.fresh k q4 (Nat.le_of_eq HPB.out) q1 q2 q3 h64).1, H.out.m.ext q4, HT.out.keep q4, (H.out.r.fresh k q4 (Nat.le_of_eq HPB.out) q1 q2 q3 h64).2⟩
        have OK1 : Hid (RelOk n []) := RelOk.nil h64
        have TX : Hid (∀ W, StrsAt W a n t → Calls Tryz.prog 44 #[.slice a n c] W fun e w' => e = .returned (.bool (mayRow t)) ∧ w' = W) := fun W q => c_tTexts t _ _ _ _ q
        have HS : Hid (∀ W, RowsV W (pb + 1) pb n [] → StrsAt W a n t → Calls Tryz.prog 13 #[.pointer (some ⟨pb, 0, none⟩), .slice a n c] W fun e w' => e = .returned (.bool (foundB [] t)) ∧ w' = W) := fun W q q2 => c_hasR _ pb n [] t a _ c W q OK1.out.up (by have := OK1.out.few; omega) q2
        have AD : Hid (∀ W, RowsV W (pb + 1) pb n [] → StrsAt W a n t → pb < W.heap.size → Calls Tryz.prog 30 #[.pointer (some ⟨pb, 0, none⟩), .slice a n c] W (AddR2 (pb + 1) pb n [] t W)) := fun W q q2 q3 => c_addR2 _ pb n [] t a _ c W q OK1.out.up q2 HNIL.out hn1 OK1.out.few q3
        have PU : Hid (∀ W f m, BaseR W lo bb f → BaseMp W lo bb m → Calls Tryz.prog 43 #[.pointer (some ⟨bb, 0, none⟩), .string k, .pointer (some ⟨pb, 0, none⟩)] W fun e w' => (∃ v, e = .returned v) ∧ BaseR w' lo bb f ∧ BaseMp w' lo bb (updF m k pb) ∧ ButS (fun b => lo ≤ b) W w' ∧ BMove bb f f W w') := fun W f m q q2 => c_putB lo bb pb f m k W q q2
        obtain ⟨bm, hbm⟩ : ∃ b, mayRow t = b := ⟨_, rfl⟩
        have HBM := Lib.hid hbm
        rw [hbm] at TX
        obtain ⟨bg, hbg⟩ : ∃ b, decide ((262144 : Int) ≤ n0) = b := ⟨_, rfl⟩
        obtain ⟨bf, hbf⟩ : ∃ b, foundB [] t = b := ⟨_, rfl⟩
        have HBF := Lib.hid hbf
        rw [hbf] at HS
        clear hbm hbf
        cases bm with
        | false =>
          go_enter Tryz.func23, Tryz.ntmps23
          go_wp2_with (first
            | (go_at_call 42; (with_reducible refine NM.out.mono ?_); rintro e w0 ⟨rfl, hw0⟩; obtain rfl := hw0.symm)
            | (go_at_call 27; (with_reducible refine NR.out.mono ?_); rintro e w1 ⟨rfl, v1, t1, i1, e1, z1⟩; obtain ⟨r1, m1, s1, b1⟩ := P0.out w1 v1 t1 i1 e1; have c2 := v1.c2; have cn1 := keep e1 cn; have hp1 : pb < w1.heap.size := by rw [z1]; omega)
            | (go_at_call 44; (with_reducible refine (TX.out _ s1).mono ?_); rintro e w2 ⟨rfl, hw2⟩; obtain rfl := hw2.symm))
          go_ret2
          exact ⟨⟨_, _, rfl, fun q => by cases q⟩, b1.but⟩
        | true =>
          have AE : Hid (addErr n [] t = if 65536 ≤ ([] : List (List ByteArray)).length ∧ foundB [] t = false then 4 else 0) := by have q := add_cases [] t HBM.out; rw [HLEN.out] at q; exact q
          cases bf with
          | true =>
            have ADD : Hid (∀ W, RowsV W (pb + 1) pb n [] → StrsAt W a n t → pb < W.heap.size → Calls Tryz.prog 30 #[.pointer (some ⟨pb, 0, none⟩), .slice a n c] W fun e w' => e = .returned (.tuple #[.bool false, .int .i64 0]) ∧ RowsV w' (pb + 1) pb n (addTo n [] t) ∧ AddF pb W w') := fun W q q2 q3 => (AD.out W q q2 q3).mono fun e w' ⟨u1, u2, u3⟩ => ⟨by rw [u1, AE.out, HBF.out]; simp, u2, u3⟩
            have FIN : Hid (addTo n [] t = putRow [] t) := by show _ = _; unfold addTo; rw [AE.out, HBF.out]; simp
            clear AD
            cases bg
            all_goals
              go_enter Tryz.func23, Tryz.ntmps23
              go_wp2_with (first
                | (go_at_call 42; (with_reducible refine NM.out.mono ?_); rintro e w0 ⟨rfl, hw0⟩; obtain rfl := hw0.symm)
                | (go_at_call 27; (with_reducible refine NR.out.mono ?_); rintro e w1 ⟨rfl, v1, t1, i1, e1, z1⟩; obtain ⟨r1, m1, s1, b1⟩ := P0.out w1 v1 t1 i1 e1; have c2 := v1.c2; have cn1 := keep e1 cn; have hp1 : pb < w1.heap.size := by rw [z1]; omega)
                | (go_at_call 44; (with_reducible refine (TX.out _ s1).mono ?_); rintro e w2 ⟨rfl, hw2⟩; obtain rfl := hw2.symm)
                | (go_at_call 13; (with_reducible refine (HS.out _ v1 s1).mono ?_); rintro e w2 ⟨rfl, hw2⟩; obtain rfl := hw2.symm)
                | (go_at_call 30; (with_reducible refine (ADD.out _ v1 s1 hp1).mono ?_); rintro e w3 ⟨rfl, v3, f3⟩; obtain ⟨r3, m3, _, b3⟩ := BaseR.added r1 (by unfold updF; rw [if_pos rfl]) f3 v3 (OK1.out.add t))
                | (go_at_call 43; (with_reducible refine (PU.out _ _ _ r3 (m3 _ m1)).mono ?_); rintro e w4 ⟨⟨v4, rfl⟩, r4, m4, _, b4⟩; obtain ⟨n4, c4⟩ := r4.n; have z4 := r4.free))
              go_ret2
              rw [FIN.out] at r4 b3 b4
              refine ⟨⟨_, _, rfl, fun _ => ⟨pb, ?_, ?_, by rw [HA0.out.1]; exact HLEN.out, HBM.out⟩⟩, ((b1.trans b3).trans b4).but⟩
              rw [HA0.out.1, HA0.out.2]
              · exact BaseV.fin r4 m4 (.inr ⟨_, rfl⟩)
              · rw [HA0.out.1, HA0.out.2]
                rw [← upd_upd f k (pb, n, []) (pb, n, putRow [] t)]
                exact ((b1.trans b3).trans b4)
          | false =>
            cases bg with
            | true =>
              go_enter Tryz.func23, Tryz.ntmps23
              go_wp2_with (first
                | (go_at_call 42; (with_reducible refine NM.out.mono ?_); rintro e w0 ⟨rfl, hw0⟩; obtain rfl := hw0.symm)
                | (go_at_call 27; (with_reducible refine NR.out.mono ?_); rintro e w1 ⟨rfl, v1, t1, i1, e1, z1⟩; obtain ⟨r1, m1, s1, b1⟩ := P0.out w1 v1 t1 i1 e1; have c2 := v1.c2; have cn1 := keep e1 cn; have hp1 : pb < w1.heap.size := by rw [z1]; omega)
                | (go_at_call 44; (with_reducible refine (TX.out _ s1).mono ?_); rintro e w2 ⟨rfl, hw2⟩; obtain rfl := hw2.symm)
                | (go_at_call 13; (with_reducible refine (HS.out _ v1 s1).mono ?_); rintro e w2 ⟨rfl, hw2⟩; obtain rfl := hw2.symm))
              go_ret2
              exact ⟨⟨_, _, rfl, fun q => by cases q⟩, b1.but⟩
            | false =>
              by_cases hfull : 65536 ≤ ([] : List (List ByteArray)).length
              · have ADD : Hid (∀ W, RowsV W (pb + 1) pb n [] → StrsAt W a n t → pb < W.heap.size → Calls Tryz.prog 30 #[.pointer (some ⟨pb, 0, none⟩), .slice a n c] W fun e w' => e = .returned (.tuple #[.bool false, .int .i64 4]) ∧ RowsV w' (pb + 1) pb n (addTo n [] t) ∧ AddF pb W w') := fun W q q2 q3 => (AD.out W q q2 q3).mono fun e w' ⟨u1, u2, u3⟩ => ⟨by rw [u1, AE.out, HBF.out, if_pos ⟨hfull, rfl⟩]; rfl, u2, u3⟩
                clear AD
                go_enter Tryz.func23, Tryz.ntmps23
                go_wp2_with (first
                  | (go_at_call 42; (with_reducible refine NM.out.mono ?_); rintro e w0 ⟨rfl, hw0⟩; obtain rfl := hw0.symm)
                  | (go_at_call 27; (with_reducible refine NR.out.mono ?_); rintro e w1 ⟨rfl, v1, t1, i1, e1, z1⟩; obtain ⟨r1, m1, s1, b1⟩ := P0.out w1 v1 t1 i1 e1; have c2 := v1.c2; have cn1 := keep e1 cn; have hp1 : pb < w1.heap.size := by rw [z1]; omega)
                  | (go_at_call 44; (with_reducible refine (TX.out _ s1).mono ?_); rintro e w2 ⟨rfl, hw2⟩; obtain rfl := hw2.symm)
                  | (go_at_call 30; (with_reducible refine (ADD.out _ v1 s1 hp1).mono ?_); rintro e w3 ⟨rfl, v3, f3⟩; obtain ⟨r3, m3, _, b3⟩ := BaseR.added r1 (by unfold updF; rw [if_pos rfl]) f3 v3 (OK1.out.add t)))
                go_ret2
                exact ⟨⟨_, _, rfl, fun q => by cases q⟩, (b1.trans b3).but⟩
              · have ADD : Hid (∀ W, RowsV W (pb + 1) pb n [] → StrsAt W a n t → pb < W.heap.size → Calls Tryz.prog 30 #[.pointer (some ⟨pb, 0, none⟩), .slice a n c] W fun e w' => e = .returned (.tuple #[.bool true, .int .i64 0]) ∧ RowsV w' (pb + 1) pb n (addTo n [] t) ∧ AddF pb W w') := fun W q q2 q3 => (AD.out W q q2 q3).mono fun e w' ⟨u1, u2, u3⟩ => ⟨by rw [u1, AE.out, HBF.out, if_neg (fun h => hfull h.1)]; rfl, u2, u3⟩
                have FIN : Hid (addTo n [] t = putRow [] t) := by show _ = _; unfold addTo; rw [AE.out]; simp
                clear AD
                go_enter Tryz.func23, Tryz.ntmps23
                go_wp2_with (first
                  | (go_at_call 42; (with_reducible refine NM.out.mono ?_); rintro e w0 ⟨rfl, hw0⟩; obtain rfl := hw0.symm)
                  | (go_at_call 27; (with_reducible refine NR.out.mono ?_); rintro e w1 ⟨rfl, v1, t1, i1, e1, z1⟩; obtain ⟨r1, m1, s1, b1⟩ := P0.out w1 v1 t1 i1 e1; have c2 := v1.c2; have cn1 := keep e1 cn; have hp1 : pb < w1.heap.size := by rw [z1]; omega)
                  | (go_at_call 44; (with_reducible refine (TX.out _ s1).mono ?_); rintro e w2 ⟨rfl, hw2⟩; obtain rfl := hw2.symm)
                  | (go_at_call 30; (with_reducible refine (ADD.out _ v1 s1 hp1).mono ?_); rintro e w3 ⟨rfl, v3, f3⟩; obtain ⟨r3, m3, _, b3⟩ := BaseR.added r1 (by unfold updF; rw [if_pos rfl]) f3 v3 (OK1.out.add t))
                  | (go_at_call 43; (with_reducible refine (PU.out _ _ _ r3 (m3 _ m1)).mono ?_); rintro e w4 ⟨⟨v4, rfl⟩, r4, m4, _, b4⟩; obtain ⟨n4, c4⟩ := r4.n; have z4 := r4.free))
                go_ret2
                rw [FIN.out] at r4 b3 b4
                skip
                refine ⟨⟨_, _, rfl, fun _ => ⟨pb, ?_, ?_, by rw [HA0.out.1]; exact HLEN.out, HBM.out⟩⟩, (((b1.trans b3).trans b4).trans (r4.count _).2.2.2).but⟩
                rw [HA0.out.1, HA0.out.2]
                · exact BaseV.fin (r4.count _).1 ((r4.count _).2.1 _ m4) (.inr ⟨_, rfl⟩)
                · rw [HA0.out.1, HA0.out.2]
                  rw [← upd_upd f k (pb, n, []) (pb, n, putRow [] t)]
                  exact (((b1.trans b3).trans b4).trans (r4.count _).2.2.2)
      · have NR := Lib.hid (c_newRows_no (n : Int) (.inr (by omega)) w)
        go_enter Tryz.func23, Tryz.ntmps23
        go_wp2_with (first
          | (go_at_call 42; (with_reducible refine NM.out.mono ?_); rintro e w1 ⟨rfl, hw1⟩; obtain rfl := hw1.symm)
          | (go_at_call 27; (with_reducible refine NR.out.mono ?_); rintro e w1 ⟨rfl, hw1⟩; obtain rfl := hw1.symm))
        go_ret2
        exact ⟨⟨_, _, rfl, fun q => by cases q⟩, ButS.refl _ _⟩
    | some x =>
      obtain ⟨pb, ar, rs⟩ := x
      rw [hf] at hl
      have HF := Lib.hid hf
      have HA0 : Hid (arOf f k t = ar ∧ rsOf f k = rs) := ⟨by unfold arOf; rw [hf], by unfold rsOf; rw [hf]⟩
      have hl1 : (Instr.lookup 69 (.map (some mb)) (.string k) false).run Tryz.prog w = .ok (.pointer (some ⟨pb, 0, none⟩)) w := hl
      have c2 := (H.out.r.rel k _ hf).2.1.c2
      simp only at c2
      clear hl hf
      by_cases hne : ar = n
      · subst hne
        have hnn : ((ar : Int) != (ar : Int)) = false := by simp
        have OK1 : Hid (RelOk ar rs) := (H.out.r.rel k _ HF.out).2.2.2
        have TX : Hid (∀ W, StrsAt W a ar t → Calls Tryz.prog 44 #[.slice a ar c] W fun e w' => e = .returned (.bool (mayRow t)) ∧ w' = W) := fun W q => c_tTexts t _ _ _ _ q
        have HS : Hid (∀ W, RowsV W (pb + 1) pb ar rs → StrsAt W a ar t → Calls Tryz.prog 13 #[.pointer (some ⟨pb, 0, none⟩), .slice a ar c] W fun e w' => e = .returned (.bool (foundB rs t)) ∧ w' = W) := fun W q q2 => c_hasR _ pb ar rs t a _ c W q OK1.out.up (by have := OK1.out.few; omega) q2
        have AD : Hid (∀ W, RowsV W (pb + 1) pb ar rs → StrsAt W a ar t → pb < W.heap.size → Calls Tryz.prog 30 #[.pointer (some ⟨pb, 0, none⟩), .slice a ar c] W (AddR2 (pb + 1) pb ar rs t W)) := fun W q q2 q3 => c_addR2 _ pb ar rs t a _ c W q OK1.out.up q2 HNIL.out hn1 OK1.out.few q3
        have PU : Hid (∀ W f m, BaseR W lo bb f → BaseMp W lo bb m → Calls Tryz.prog 43 #[.pointer (some ⟨bb, 0, none⟩), .string k, .pointer (some ⟨pb, 0, none⟩)] W fun e w' => (∃ v, e = .returned v) ∧ BaseR w' lo bb f ∧ BaseMp w' lo bb (updF m k pb) ∧ ButS (fun b => lo ≤ b) W w' ∧ BMove bb f f W w') := fun W f m q q2 => c_putB lo bb pb f m k W q q2
        have v1 := Lib.hid (H.out.r.rel k _ HF.out).2.1
        have hp1 := (H.out.r.rel k _ HF.out).2.2.1.lt
        simp only at hp1
        obtain ⟨bm, hbm⟩ : ∃ b, mayRow t = b := ⟨_, rfl⟩
        have HBM := Lib.hid hbm
        rw [hbm] at TX
        obtain ⟨bg, hbg⟩ : ∃ b, decide ((262144 : Int) ≤ n0) = b := ⟨_, rfl⟩
        obtain ⟨bf, hbf⟩ : ∃ b, foundB rs t = b := ⟨_, rfl⟩
        have HBF := Lib.hid hbf
        rw [hbf] at HS
        clear hbm hbf
        cases bm with
        | false =>
          go_enter Tryz.func23, Tryz.ntmps23
          go_wp2_with (first
            | (go_at_call 42; (with_reducible refine NM.out.mono ?_); rintro e w0 ⟨rfl, hw0⟩; obtain rfl := hw0.symm)
            | (go_at_call 44; (with_reducible refine (TX.out _ HT.out).mono ?_); rintro e w2 ⟨rfl, hw2⟩; obtain rfl := hw2.symm))
          go_ret2
          exact ⟨⟨_, _, rfl, fun q => by cases q⟩, (ButS.refl _ _)⟩
        | true =>
          have AE : Hid (addErr ar rs t = if 65536 ≤ (rs : List (List ByteArray)).length ∧ foundB rs t = false then 4 else 0) := by have q := add_cases rs t HBM.out; rw [HLEN.out] at q; exact q
          cases bf with
          | true =>
            have ADD : Hid (∀ W, RowsV W (pb + 1) pb ar rs → StrsAt W a ar t → pb < W.heap.size → Calls Tryz.prog 30 #[.pointer (some ⟨pb, 0, none⟩), .slice a ar c] W fun e w' => e = .returned (.tuple #[.bool false, .int .i64 0]) ∧ RowsV w' (pb + 1) pb ar (addTo ar rs t) ∧ AddF pb W w') := fun W q q2 q3 => (AD.out W q q2 q3).mono fun e w' ⟨u1, u2, u3⟩ => ⟨by rw [u1, AE.out, HBF.out]; simp, u2, u3⟩
            have FIN : Hid (addTo ar rs t = putRow rs t) := by show _ = _; unfold addTo; rw [AE.out, HBF.out]; simp
            clear AD
            cases bg
            all_goals
              go_enter Tryz.func23, Tryz.ntmps23
              go_wp2_with (first
                | (go_at_call 42; (with_reducible refine NM.out.mono ?_); rintro e w0 ⟨rfl, hw0⟩; obtain rfl := hw0.symm)
                | (go_at_call 44; (with_reducible refine (TX.out _ HT.out).mono ?_); rintro e w2 ⟨rfl, hw2⟩; obtain rfl := hw2.symm)
                | (go_at_call 13; (with_reducible refine (HS.out _ v1.out HT.out).mono ?_); rintro e w2 ⟨rfl, hw2⟩; obtain rfl := hw2.symm)
                | (go_at_call 30; (with_reducible refine (ADD.out _ v1.out HT.out hp1).mono ?_); rintro e w3 ⟨rfl, v3, f3⟩; obtain ⟨r3, m3, _, b3⟩ := BaseR.added H.out.r HF.out f3 v3 (OK1.out.add t))
                | (go_at_call 43; (with_reducible refine (PU.out _ _ _ r3 (m3 _ H.out.m)).mono ?_); rintro e w4 ⟨⟨v4, rfl⟩, r4, m4, _, b4⟩; obtain ⟨n4, c4⟩ := r4.n; have z4 := r4.free))
              go_ret2
              rw [FIN.out] at r4 b3 b4
              refine ⟨⟨_, _, rfl, fun _ => ⟨pb, ?_, ?_, by rw [HA0.out.1]; exact HLEN.out, HBM.out⟩⟩, (b3.trans b4).but⟩
              rw [HA0.out.1, HA0.out.2]
              · exact BaseV.fin r4 m4 (.inl rfl)
              · rw [HA0.out.1, HA0.out.2]
                exact (b3.trans b4)
          | false =>
            cases bg with
            | true =>
              go_enter Tryz.func23, Tryz.ntmps23
              go_wp2_with (first
                | (go_at_call 42; (with_reducible refine NM.out.mono ?_); rintro e w0 ⟨rfl, hw0⟩; obtain rfl := hw0.symm)
                | (go_at_call 44; (with_reducible refine (TX.out _ HT.out).mono ?_); rintro e w2 ⟨rfl, hw2⟩; obtain rfl := hw2.symm)
                | (go_at_call 13; (with_reducible refine (HS.out _ v1.out HT.out).mono ?_); rintro e w2 ⟨rfl, hw2⟩; obtain rfl := hw2.symm))
              go_ret2
              exact ⟨⟨_, _, rfl, fun q => by cases q⟩, (ButS.refl _ _)⟩
            | false =>
              by_cases hfull : 65536 ≤ (rs : List (List ByteArray)).length
              · have ADD : Hid (∀ W, RowsV W (pb + 1) pb ar rs → StrsAt W a ar t → pb < W.heap.size → Calls Tryz.prog 30 #[.pointer (some ⟨pb, 0, none⟩), .slice a ar c] W fun e w' => e = .returned (.tuple #[.bool false, .int .i64 4]) ∧ RowsV w' (pb + 1) pb ar (addTo ar rs t) ∧ AddF pb W w') := fun W q q2 q3 => (AD.out W q q2 q3).mono fun e w' ⟨u1, u2, u3⟩ => ⟨by rw [u1, AE.out, HBF.out, if_pos ⟨hfull, rfl⟩]; rfl, u2, u3⟩
                clear AD
                go_enter Tryz.func23, Tryz.ntmps23
                go_wp2_with (first
                  | (go_at_call 42; (with_reducible refine NM.out.mono ?_); rintro e w0 ⟨rfl, hw0⟩; obtain rfl := hw0.symm)
                  | (go_at_call 44; (with_reducible refine (TX.out _ HT.out).mono ?_); rintro e w2 ⟨rfl, hw2⟩; obtain rfl := hw2.symm)
                  | (go_at_call 30; (with_reducible refine (ADD.out _ v1.out HT.out hp1).mono ?_); rintro e w3 ⟨rfl, v3, f3⟩; obtain ⟨r3, m3, _, b3⟩ := BaseR.added H.out.r HF.out f3 v3 (OK1.out.add t)))
                go_ret2
                exact ⟨⟨_, _, rfl, fun q => by cases q⟩, b3.but⟩
              · have ADD : Hid (∀ W, RowsV W (pb + 1) pb ar rs → StrsAt W a ar t → pb < W.heap.size → Calls Tryz.prog 30 #[.pointer (some ⟨pb, 0, none⟩), .slice a ar c] W fun e w' => e = .returned (.tuple #[.bool true, .int .i64 0]) ∧ RowsV w' (pb + 1) pb ar (addTo ar rs t) ∧ AddF pb W w') := fun W q q2 q3 => (AD.out W q q2 q3).mono fun e w' ⟨u1, u2, u3⟩ => ⟨by rw [u1, AE.out, HBF.out, if_neg (fun h => hfull h.1)]; rfl, u2, u3⟩
                have FIN : Hid (addTo ar rs t = putRow rs t) := by show _ = _; unfold addTo; rw [AE.out]; simp [hfull]
                clear AD
                go_enter Tryz.func23, Tryz.ntmps23
                go_wp2_with (first
                  | (go_at_call 42; (with_reducible refine NM.out.mono ?_); rintro e w0 ⟨rfl, hw0⟩; obtain rfl := hw0.symm)
                  | (go_at_call 44; (with_reducible refine (TX.out _ HT.out).mono ?_); rintro e w2 ⟨rfl, hw2⟩; obtain rfl := hw2.symm)
                  | (go_at_call 30; (with_reducible refine (ADD.out _ v1.out HT.out hp1).mono ?_); rintro e w3 ⟨rfl, v3, f3⟩; obtain ⟨r3, m3, _, b3⟩ := BaseR.added H.out.r HF.out f3 v3 (OK1.out.add t))
                  | (go_at_call 43; (with_reducible refine (PU.out _ _ _ r3 (m3 _ H.out.m)).mono ?_); rintro e w4 ⟨⟨v4, rfl⟩, r4, m4, _, b4⟩; obtain ⟨n4, c4⟩ := r4.n; have z4 := r4.free))
                go_ret2
                rw [FIN.out] at r4 b3 b4
                skip
                refine ⟨⟨_, _, rfl, fun _ => ⟨pb, ?_, ?_, by rw [HA0.out.1]; exact HLEN.out, HBM.out⟩⟩, ((b3.trans b4).trans (r4.count _).2.2.2).but⟩
                rw [HA0.out.1, HA0.out.2]
                · exact BaseV.fin (r4.count _).1 ((r4.count _).2.1 _ m4) (.inl rfl)
                · rw [HA0.out.1, HA0.out.2]
                  exact ((b3.trans b4).trans (r4.count _).2.2.2)
      · have hne2 : ¬ ((ar : Int) = (n : Int)) := by omega
        go_enter Tryz.func23, Tryz.ntmps23
        go_wp2_with (go_at_call 42; (with_reducible refine NM.out.mono ?_); rintro e w1 ⟨rfl, hw1⟩; obtain rfl := hw1.symm)
        go_ret2
        exact ⟨⟨_, _, rfl, fun q => by cases q⟩, ButS.refl _ _⟩
/-- A name is declared. -/
def declF (f : RelM) (k : ByteArray) (pb ar : Nat) : RelM := match f k with
  | some _ => f
  | none => updF f k (pb, ar, [])
def BDecl (lo bb : Nat) (f : RelM) (k : ByteArray) (ar : Int) (w : World) (e : Ending) (w' : World) : Prop := (∃ q, e = .returned (.int .i64 q) ∧ (q = 0 → ∃ pb, 0 ≤ ar ∧ BaseV w' lo bb (declF f k pb ar.toNat) ∧ BMove bb f (declF f k pb ar.toNat) w w')) ∧ ButS (BaseBl w bb f) w w'
set_option maxRecDepth 100000 in
set_option maxHeartbeats 4000000 in
theorem c_declare (lo bb : Nat) (f : RelM) (k : ByteArray) (ar : Int) (w : World) (h : BaseV w lo bb f) :
    Calls Tryz.prog 22 #[.pointer (some ⟨bb, 0, none⟩), .string k, .int .i64 ar] w (BDecl lo bb f k ar w) := by
  have H := Lib.hid h
  obtain ⟨bn, hbn⟩ : ∃ b, namedB k = b := ⟨_, rfl⟩
  have NM := Lib.hid (c_named k w)
  rw [hbn] at NM
  clear hbn
  cases bn with
  | false =>
    clear h
    go_enter Tryz.func22, Tryz.ntmps22
    go_wp2_with (go_at_call 42; (with_reducible refine NM.out.mono ?_); rintro e w1 ⟨rfl, hw1⟩; obtain rfl := hw1.symm)
    go_returns
    exact ⟨⟨_, rfl, fun q => by cases q⟩, ButS.refl _ _⟩
  | true =>
    by_cases har : 0 ≤ ar ∧ ar ≤ 64
    · obtain ⟨a, rfl⟩ : ∃ a : Nat, ar = (a : Int) := ⟨ar.toNat, by omega⟩
      have ha : a ≤ 64 := by omega
      obtain ⟨pb, hpb⟩ : ∃ pb, w.heap.size = pb := ⟨_, rfl⟩
      have HPB := Lib.hid hpb
      have NR := Lib.hid (c_newRows2 a ha w)
      rw [hpb] at NR
      clear hpb
      have LK : Hid (∀ W, Ext w W → ∃ mb, W.cell? ⟨bb, 0, none⟩ = some (.map (some mb)) ∧ (Instr.lookup 69 (.map (some mb)) (.string k) false).run Tryz.prog W = .ok (relP (f k)) W) := fun W hW => (H.out.ext hW).look k
      have P0 : Hid (∀ W, RowsV W (pb + 1) pb a [] → Ty W pb 99 → itemB W pb = none → Ext w W → BaseR W lo bb (updF f k (pb, a, [])) ∧ BaseMp W lo bb (fun k => (f k).map fun x => x.1) ∧ BMove bb f (updF f k (pb, a, [])) w W) := fun W q1 q2 q3 q4 => ⟨(H.out.r.fresh k q4 (Nat.le_of_eq HPB.out) q1 q2 q3 ha).1, H.out.m.ext q4, (H.out.r.fresh k q4 (Nat.le_of_eq HPB.out) q1 q2 q3 ha).2⟩
      have PU : Hid (∀ W f m, BaseR W lo bb f → BaseMp W lo bb m → Calls Tryz.prog 43 #[.pointer (some ⟨bb, 0, none⟩), .string k, .pointer (some ⟨pb, 0, none⟩)] W fun e w' => (∃ v, e = .returned v) ∧ BaseR w' lo bb f ∧ BaseMp w' lo bb (updF m k pb) ∧ ButS (fun b => lo ≤ b) W w' ∧ BMove bb f f W w') := fun W f m q q2 => c_putB lo bb pb f m k W q q2
      have HA : Hid ((a : Int).toNat = a) := by show _ = _; omega
      cases hf : f k with
      | none =>
        rw [hf] at LK
        have HF := Lib.hid hf
        clear h hf har
        go_enter Tryz.func22, Tryz.ntmps22
        go_wp2_with (first
          | (go_at_call 42; (with_reducible refine NM.out.mono ?_); rintro e w0 ⟨rfl, hw0⟩; obtain rfl := hw0.symm)
          | (go_at_call 27; (with_reducible refine NR.out.mono ?_); rintro e w1 ⟨rfl, v1, t1, i1, e1, z1⟩; obtain ⟨r1, m1, b1⟩ := P0.out w1 v1 t1 i1 e1; obtain ⟨mb, c1, l1⟩ := LK.out w1 e1; simp only [relP, Option.map_none] at l1)
          | (go_at_call 43; (with_reducible refine (PU.out _ _ _ r1 m1).mono ?_); rintro e w4 ⟨⟨v4, rfl⟩, r4, m4, _, b4⟩))
        go_returns
        refine ⟨⟨_, rfl, fun _ => ⟨pb, by omega, ?_, ?_⟩⟩, (b1.trans b4).but⟩
        · unfold declF
          rw [HF.out, HA.out]
          exact BaseV.fin r4 m4 (.inl rfl)
        · unfold declF
          rw [HF.out, HA.out]
          exact b1.trans b4
      | some x =>
        obtain ⟨p0, a0, rs⟩ := x
        rw [hf] at LK
        have HF := Lib.hid hf
        have c2 := (H.out.r.rel k _ hf).2.1.c2
        simp only at c2
        obtain ⟨bq, hbq⟩ : ∃ b, ((a0 : Int) != (a : Int)) = b := ⟨_, rfl⟩
        clear h hf har
        cases bq
        all_goals
          go_enter Tryz.func22, Tryz.ntmps22
          go_wp2_with (first
            | (go_at_call 42; (with_reducible refine NM.out.mono ?_); rintro e w0 ⟨rfl, hw0⟩; obtain rfl := hw0.symm)
            | (go_at_call 27; (with_reducible refine NR.out.mono ?_); rintro e w1 ⟨rfl, v1, t1, i1, e1, z1⟩; have c3 := keep e1 c2; obtain ⟨mb, c1, l1⟩ := LK.out w1 e1; simp only [relP, Option.map_some] at l1))
          go_returns
        · refine ⟨⟨_, rfl, fun _ => ⟨pb, by omega, ?_, ?_⟩⟩, (ButS.refl _ _).ext e1⟩
          · unfold declF
            rw [HF.out]
            exact H.out.ext e1
          · unfold declF
            rw [HF.out]
            exact H.out.r.ext_mv e1
        · exact ⟨⟨_, rfl, fun q => by cases q⟩, (ButS.refl _ _).ext e1⟩
    · have NR := Lib.hid (c_newRows_no ar (by omega) w)
      obtain ⟨mb, h1, hl⟩ := h.look k
      clear h
      go_enter Tryz.func22, Tryz.ntmps22
      go_wp2_with (first
        | (go_at_call 42; (with_reducible refine NM.out.mono ?_); rintro e w1 ⟨rfl, hw1⟩; obtain rfl := hw1.symm)
        | (go_at_call 27; (with_reducible refine NR.out.mono ?_); rintro e w1 ⟨rfl, hw1⟩; obtain rfl := hw1.symm))
      go_returns
      exact ⟨⟨_, rfl, fun q => by cases q⟩, ButS.refl _ _⟩
end Go.Proofs.YtpgbenijjodoeaaGreat
