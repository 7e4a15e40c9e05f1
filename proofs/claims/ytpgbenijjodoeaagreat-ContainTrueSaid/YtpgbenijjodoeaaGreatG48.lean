/- The walk of tuple.FromRelations. -/
import Derived.Test.YtpgbenijjodoeaaGreatG9
namespace Go.Proofs.YtpgbenijjodoeaaGreat
open Go.ChangeShapes Go.WideShapes Go.ChangeAt Go.RowKit
/-- A relation that is handed in. -/
structure RelA where
  name : ByteArray
  ar : Int
  rows : List (List ByteArray)
def rowQ (w : World) (b o : Nat) (r : List ByteArray) : Prop := ∃ (a : Option Addr) (n c : Nat), w.cell? ⟨b, o, none⟩ = some (.slice a n c) ∧ StrsAt w a n r ∧ (a = none → n = 0 ∧ c = 0) ∧ n ≤ 8796093022207
theorem rowQ.keep {W w : World} (hb : Ext W w) {b o : Nat} {r : List ByteArray} (h : rowQ W b o r) : rowQ w b o r := by
  obtain ⟨a, n, c, h1, h2, h3, h4⟩ := h
  exact ⟨a, n, c, YtpgbenijjodoeaaGreat.keep hb h1, h2.keep hb, h3, h4⟩
def relAt (w : World) (b o : Nat) (x : RelA) : Prop := w.cell? ⟨b, o, none⟩ = some (.string x.name) ∧ w.cell? ⟨b, o + 1, none⟩ = some (.int .i64 x.ar) ∧ ∃ (a : Option Addr) (n c : Nat), w.cell? ⟨b, o + 2, none⟩ = some (.slice a n c) ∧ n ≤ maxLen ∧ SliceAt rowQ 1 w a n x.rows
theorem relAt.keep {W w : World} (hb : Ext W w) {b o : Nat} {x : RelA} (h : relAt W b o x) : relAt w b o x := by
  obtain ⟨h1, h2, a, n, c, h3, h4, h5⟩ := h
  exact ⟨YtpgbenijjodoeaaGreat.keep hb h1, YtpgbenijjodoeaaGreat.keep hb h2, a, n, c, YtpgbenijjodoeaaGreat.keep hb h3, h4, h5.keep fun _ _ _ => rowQ.keep hb⟩
def RelsAt (w : World) (a : Option Addr) (n : Nat) (xs : List RelA) : Prop := n ≤ maxLen ∧ SliceAt relAt 3 w a n xs
theorem RelsAt.keep {W w : World} (hb : Ext W w) {a : Option Addr} {n : Nat} {xs : List RelA} (h : RelsAt W a n xs) : RelsAt w a n xs := ⟨h.1, h.2.keep fun _ _ _ => relAt.keep hb⟩
def FrelPost (w : World) (e : Ending) (w' : World) : Prop := Ext w w' ∧ ∃ v q, e = .returned (.tuple #[v, .int .i64 q]) ∧ ((q ≠ 0 ∧ v = .pointer none) ∨ (q = 0 ∧ ∃ bb f, v = .pointer (some ⟨bb, 0, none⟩) ∧ BaseV w' w.heap.size bb f))
theorem ext_buts {w x z : World} (h1 : Ext w x) (h2 : ButS (fun b => w.heap.size ≤ b) x z) : Ext w z := ext_of_but h1 h2 (fun b hb h => by omega)
set_option maxRecDepth 100000 in
set_option maxHeartbeats 4000000 in
theorem c_fromRel (xs : List RelA) (a : Option Addr) (n c : Nat) (w : World) (h : RelsAt w a n xs) :
    Calls Tryz.prog 8 #[.slice a n c] w (FrelPost w) := by
  have H := Lib.hid h
  have hn : n ≤ 9223372036854775807 := h.1
  have NB := Lib.hid (c_newBase w)
  clear h
  go_enter Tryz.func8, Tryz.ntmps8
  go_wp2_with (go_at_call 21; (with_reducible refine NB.out.mono ?_); rintro e w1 ⟨rfl, v1, e1⟩)
  obtain ⟨bb, hbb⟩ : ∃ bb, w.heap.size + 1 = bb := ⟨_, rfl⟩
  rw [hbb] at v1 ⊢
  have V1 := Lib.hid v1
  clear hbb v1
  go_loopw [15] (fun v wj => ∃ k f, k ≤ n ∧ v = .int .i64 (k : Nat) ∧ BaseV wj w.heap.size bb f ∧ Ext w wj) (fun v _ => n - (intOf v).toNat)
  case atStart => exact ⟨0, _, by omega, rfl, V1.out, e1⟩
  case round =>
    obtain ⟨k, f, hk, rfl, hv, hx⟩ := hrel
    have HV := Lib.hid hv
    have HX := Lib.hid hx
    clear hv hx
    by_cases hlt : k < n
    · have hki : (k : Int) < (n : Int) := by omega
      obtain ⟨x, b0, o0, hx0, rfl, f1, f2, ar, nr, cr, f3, g4, g5⟩ := H.out.2.at hlt
      have g1 := keep HX.out f1
      have g2 := keep HX.out f2
      have g3 := keep HX.out f3
      have G5 := Lib.hid g5
      have G4 := Lib.hid g4
      have hnr : nr ≤ 9223372036854775807 := g4
      clear g5 g4 f1 f2 f3
      have EA : Hid (Ext wr (wr.alloc (.cells #[.string x.name, .int .i64 x.ar, .slice ar nr cr] 66))) := ext_alloc (Below.refl _ _) _
      have BV : Hid (BaseV (wr.alloc (.cells #[.string x.name, .int .i64 x.ar, .slice ar nr cr] 66)) w.heap.size bb f) := HV.out.ext EA.out
      have NP : Hid (¬ BaseBl (wr.alloc (.cells #[.string x.name, .int .i64 x.ar, .slice ar nr cr] 66)) bb f wr.heap.size) := fun q => by
        have := (HV.out.bl (HV.out.r.ext_bl EA.out q)).2
        omega
      have EW : Hid (Ext w (wr.alloc (.cells #[.string x.name, .int .i64 x.ar, .slice ar nr cr] 66))) := ext_trans HX.out EA.out
      have SZ : Hid (wr.heap.size < (wr.alloc (.cells #[.string x.name, .int .i64 x.ar, .slice ar nr cr] 66)).heap.size) := by show _ < _; simp
      have C0 : Hid ((wr.alloc (.cells #[.string x.name, .int .i64 x.ar, .slice ar nr cr] 66)).cell? ⟨wr.heap.size, 0, none⟩ = some (.string x.name)) := by show _ = _; go_simp
      have C2 : Hid ((wr.alloc (.cells #[.string x.name, .int .i64 x.ar, .slice ar nr cr] 66)).cell? ⟨wr.heap.size, 2, none⟩ = some (.slice ar nr cr)) := by show _ = _; go_simp
      have DC := Lib.hid (c_declare _ bb f x.name x.ar _ BV.out)
      obtain ⟨p6, hp6⟩ : ∃ p6, wr.heap.size = p6 := ⟨_, rfl⟩
      have HP6 := Lib.hid hp6
      rw [hp6] at NP C0 C2 SZ
      go_wp2_with (go_at_call 22; (with_reducible refine DC.out.mono ?_); rintro e w2 ⟨⟨q, rfl, hq⟩, hb2⟩; have c0 := hb2.cell NP.out C0.out; have c2 := hb2.cell NP.out C2.out)
      clear hp6
      all_goals
        have EW2 : Hid (Ext w w2) := ext_buts EW.out (hb2.mono fun b _ h => (BV.out.bl h).1)
      · go_ret2
        exact ⟨EW2.out, _, _, rfl, .inl ⟨by first | assumption | (simp_all), rfl⟩⟩
      · rename_i hq0
        obtain ⟨pb, _, v2, mv2⟩ := hq (by simpa using hq0)
        have V2 := Lib.hid v2
        have NP2 : Hid (¬ BaseBl w2 bb (declF f x.name pb x.ar.toNat) p6) := fun h => (mv2.own _ h).elim NP.out (fun h => by have := SZ.out; omega)
        have P6 : Hid (p6 < w2.heap.size) := Nat.lt_of_lt_of_le SZ.out hb2.size
        have C02 := Lib.hid c0
        generalize declF f x.name pb x.ar.toNat = f2 at V2 NP2
        clear v2 mv2 hb2 hq hq0 c0 c2
        go_loopw [31] (fun v wj => ∃ j f, j ≤ nr ∧ v = .int .i64 (j : Nat) ∧ BaseV wj w.heap.size bb f ∧ Ext w wj ∧ wj.cell? ⟨p6, 0, none⟩ = some (.string x.name) ∧ ¬ BaseBl wj bb f p6 ∧ p6 < wj.heap.size) (fun v _ => nr - (intOf v).toNat)
        case atStart => exact ⟨0, f2, by omega, rfl, V2.out, EW2.out, C02.out, NP2.out, P6.out⟩
        case round =>
          obtain ⟨j, g, hj, rfl, hv, hx, c0, np, hp⟩ := hrel
          have HV := Lib.hid hv
          have HX := Lib.hid hx
          have NQ := Lib.hid np
          have HP := Lib.hid hp
          have HC := Lib.hid c0
          clear hv hx np hp
          by_cases hlj : j < nr
          · have hji : (j : Int) < (nr : Int) := by omega
            obtain ⟨r, b1, o1, hr0, rfl, a1, n1, c1, g4, g5, g6, g7⟩ := (G5.out.keep (fun _ _ _ => rowQ.keep HX.out)).at hlj
            rw [Nat.mul_one] at g4
            have AD := Lib.hid (c_badd _ bb g x.name r a1 n1 c1 wr HV.out g5 g6 g7)
            clear g5 g6 g7
            go_wp2_with (go_at_call 23; (with_reducible refine AD.out.mono ?_); rintro e w3 ⟨⟨bq, qq, rfl, hqq⟩, hb3⟩)
            all_goals
              have EW3 : Hid (Ext w w3) := ext_buts HX.out (hb3.mono fun b _ h => (HV.out.bl h).1)
            · go_ret2
              exact ⟨EW3.out, _, _, rfl, .inl ⟨by first | assumption | (simp_all), rfl⟩⟩
            · rename_i hq0
              obtain ⟨pb, v3, mv3, _⟩ := hqq (by simpa using hq0)
              have V3 := Lib.hid v3
              have NP3 : Hid (¬ BaseBl w3 bb (updF g x.name (pb, arOf g x.name r, putRow (rsOf g x.name) r)) p6) := fun h => (mv3.own _ h).elim NQ.out (fun h => by have := HP.out; omega)
              have P63 : Hid (p6 < w3.heap.size) := Nat.lt_of_lt_of_le HP.out hb3.size
              have C03 := Lib.hid (hb3.cell NQ.out HC.out)
              clear hqq hq0 v3 mv3 hb3
              go_roundw
              case rel => exact ⟨j + 1, _, by omega, by go_num, V3.out, EW3.out, C03.out, NP3.out, P63.out⟩
              case measure => simp [intOf]; omega
          · obtain rfl : j = nr := by omega
            have hge : ¬ (j : Int) < (j : Int) := by omega
            go_wp2
            go_roundw
            case rel => exact ⟨k + 1, g, by omega, by go_num, HV.out, HX.out⟩
            case measure => simp [intOf]; omega
    · obtain rfl : k = n := by omega
      have hge : ¬ (k : Int) < (k : Int) := by omega
      go_wp2
      go_ret2
      exact ⟨HX.out, _, _, rfl, .inr ⟨rfl, bb, f, rfl, HV.out⟩⟩
end Go.Proofs.YtpgbenijjodoeaaGreat
