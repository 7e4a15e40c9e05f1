/- Lists of rows in memory; the walks of a set's cmp, slices.BinarySearchFunc, a set's find. They leave the world as it was. -/
import Derived.Test.YtpgbenijjodoeaaGreatG0
namespace Go.Proofs.YtpgbenijjodoeaaGreat
open Go.ChangeShapes Go.WideShapes Go.ChangeAt Go.RowKit
def rowAt (w : World) (b o : Nat) (r : List ByteArray) : Prop := ∃ (a : Option Addr) (n c : Nat), w.cell? ⟨b, o, none⟩ = some (.slice a n c) ∧ StrsAt w a n r
theorem rowAt.keep {W w : World} (hb : Ext W w) {b o : Nat} {r : List ByteArray} (h : rowAt W b o r) : rowAt w b o r := by
  obtain ⟨a, n, c, h1, h2⟩ := h
  exact ⟨a, n, c, YtpgbenijjodoeaaGreat.keep hb h1, h2.keep hb⟩
def ItemsAt (w : World) (a : Option Addr) (n : Nat) (rs : List (List ByteArray)) : Prop := n ≤ maxLen ∧ SliceAt rowAt 1 w a n rs
theorem ItemsAt.keep {W w : World} (hb : Ext W w) {a : Option Addr} {n : Nat} {rs : List (List ByteArray)} (h : ItemsAt W a n rs) : ItemsAt w a n rs := ⟨h.1, h.2.keep fun _ _ _ => rowAt.keep hb⟩
/-- The order of rows, as a function value. -/
abbrev orderV : Value := .func (.func 51) #[] #[]
theorem func_eq (w : World) : (binOp .eql 95 (.func (.func 51) #[] #[]) .nilFunc).run Tryz.prog w = .ok (.bool false) w := by kernel_rfl
set_option maxRecDepth 100000 in
theorem c_cmpS (xs ys : List ByteArray) (pb : Nat) (aa : Option Addr) (n cap : Nat) (ab : Option Addr) (m cb : Nat) (w : World) (hp : w.cell? ⟨pb, 0, none⟩ = some orderV) (ha : StrsAt w aa n xs) (hb : StrsAt w ab m ys) :
    Calls Tryz.prog 77 #[.pointer (some ⟨pb, 0, none⟩), .slice aa n cap, .slice ab m cb] w fun e w' => e = .returned (.int .i64 (cmpRow xs ys)) ∧ w' = w := by
  have HA := Lib.hid ha
  have HB := Lib.hid hb
  clear ha hb
  have eqf := func_eq
  go_enter Tryz.func77, Tryz.ntmps77
  go_wp2_with (go_at_call 51; (with_reducible refine (c_tCompare xs ys _ _ _ _ _ _ _ HA.out HB.out).mono ?_); rintro e w1 ⟨rfl, hw1⟩; obtain rfl := hw1.symm)
  go_returns
  exact ⟨rfl, rfl⟩
/-- How many of the first rows are below t. -/
def lowB (rs : List (List ByteArray)) (t : List ByteArray) : Nat := (rs.takeWhile fun r => decide (cmpRow r t < 0)).length
/-- Is t among the rows? -/
def foundB (rs : List (List ByteArray)) (t : List ByteArray) : Bool := match rs[lowB rs t]? with
  | some r => decide (cmpRow r t = 0)
  | none => false
theorem takeWhile_len {α : Type} (p : α → Bool) (l : List α) (i : Nat) (h1 : ∀ k x, k < i → l[k]? = some x → p x = true) (h2 : ∀ x, l[i]? = some x → p x = false) (hi : i ≤ l.length) : (l.takeWhile p).length = i := by
  induction l generalizing i with
  | nil => simp at hi; simp [hi]
  | cons a l ih =>
    cases i with
    | zero => simp [h2 a rfl]
    | succ i =>
      rw [List.takeWhile_cons, h1 0 a (by omega) rfl, if_pos rfl, List.length_cons]
      rw [ih i (fun k x hk hx => h1 (k + 1) x (by omega) hx) (fun x hx => h2 x hx) (by simpa using hi)]
/-- The rows below t stand ahead of all others. -/
def Cut (rs : List (List ByteArray)) (t : List ByteArray) : Prop := ∀ (i j : Nat) (x y : List ByteArray), i ≤ j → rs[i]? = some x → rs[j]? = some y → cmpRow y t < 0 → cmpRow x t < 0
def cmpV (pb : Nat) : Value := .func (.func 77) #[.pointer (some ⟨pb, 0, none⟩)] #[]
set_option maxRecDepth 100000 in
set_option maxHeartbeats 4000000 in
theorem c_bsf (rs : List (List ByteArray)) (t : List ByteArray) (pb : Nat) (a : Option Addr) (n cap : Nat) (ab : Option Addr) (m cb : Nat) (w : World) (hp : w.cell? ⟨pb, 0, none⟩ = some orderV) (hr : ItemsAt w a n rs) (hb : StrsAt w ab m t) (hc : Cut rs t) (hn : n ≤ 1000000000) :
    Calls Tryz.prog 76 #[.slice a n cap, .slice ab m cb, cmpV pb] w fun e w' => e = .returned (.tuple #[.int .i64 (lowB rs t : Nat), .bool (foundB rs t)]) ∧ w' = w := by
  have HR := Lib.hid hr
  have HB := Lib.hid hb
  have HP := Lib.hid hp
  have HC := Lib.hid hc
  have HL := Lib.hid hr.2.1
  clear hr hb hp hc
  unfold cmpV
  go_enter Tryz.func76, Tryz.ntmps76
  go_wp2
  go_loopw [9, 10] (fun v9 v10 wj => ∃ i j : Nat, i ≤ j ∧ j ≤ n ∧ v9 = .int .i64 (i : Int) ∧ v10 = .int .i64 (j : Int) ∧ wj = w ∧ (∀ k x, k < i → rs[k]? = some x → cmpRow x t < 0) ∧ (∀ x, rs[j]? = some x → 0 ≤ cmpRow x t)) (fun v9 v10 _ => (intOf v10).toNat - (intOf v9).toNat)
  case atStart => exact ⟨0, n, Nat.zero_le _, Nat.le_refl _, rfl, rfl, rfl, fun k x hk => absurd hk (Nat.not_lt_zero _), fun x hx => by rw [List.getElem?_eq_none (by have := HL.out; omega)] at hx; cases hx⟩
  case round =>
    obtain ⟨i, j, hij, hjn, rfl, rfl, rfl, h1, h2⟩ := hrel
    have H1 := Lib.hid h1
    have H2 := Lib.hid h2
    clear h1 h2
    by_cases hlt : i < j
    · have hli : (i : Int) < (j : Int) := by omega
      have hp := HP.out
      go_upto_region 5 with (fail)
      obtain ⟨h, hh⟩ : ∃ h : Nat, ((i : Int) + (j : Int)) / 2 = (h : Int) := ⟨(i + j) / 2, by omega⟩
      have hih : i ≤ h := by omega
      have hhj : h < j := by omega
      rw [hh]
      clear hh
      obtain ⟨x, b1, o1, hx, rfl, aR, nR, cR, c1, sR⟩ := HR.out.2.at (i := h) (by omega)
      have HX := Lib.hid hx
      have g1 : wr.cell? ⟨b1, o1 + h, none⟩ = some (.slice aR nR cR) := by simpa using c1
      have SR := Lib.hid sR
      have hhn : (h : Int) < (n : Int) := by omega
      obtain ⟨C, hC⟩ : ∃ C, cmpRow x t = C := ⟨_, rfl⟩
      have HCC := Lib.hid hC
      clear hx c1 sR hC
      by_cases h0 : C < 0
      · have t1 : (C < 0) := h0
        have HNX : Hid (∀ k y, k < h + 1 → rs[k]? = some y → cmpRow y t < 0) := fun k y hk hy => HC.out k h y x (by omega) hy HX.out (by rw [HCC.out]; exact h0)
        go_wp2_with (go_at_call 77; (with_reducible refine (c_cmpS x t pb _ _ _ _ _ _ _ HP.out SR.out HB.out).mono ?_); rw [HCC.out]; rintro e w1 ⟨rfl, hw1⟩; obtain rfl := hw1.symm)
        go_roundw
        case rel => exact ⟨h + 1, j, by omega, hjn, by go_num, rfl, by first | trivial | rfl, HNX.out, H2.out⟩
        case measure => simp [intOf]; omega
      · have HNX : Hid (∀ y, rs[h]? = some y → 0 ≤ cmpRow y t) := fun y hy => by
          have := HX.out.symm.trans hy
          cases this
          rw [HCC.out]
          omega
        go_wp2_with (go_at_call 77; (with_reducible refine (c_cmpS x t pb _ _ _ _ _ _ _ HP.out SR.out HB.out).mono ?_); rw [HCC.out]; rintro e w1 ⟨rfl, hw1⟩; obtain rfl := hw1.symm)
        go_roundw
        case rel => exact ⟨i, h, by omega, by omega, rfl, rfl, by first | trivial | rfl, H1.out, HNX.out⟩
        case measure => simp [intOf]; omega
    · obtain rfl : i = j := by omega
      have hge : ¬ (i : Int) < (i : Int) := by omega
      have hlow : lowB rs t = i := takeWhile_len _ rs i (fun k x hk hx => by simpa using H1.out k x hk hx) (fun x hx => by simpa using H2.out x hx) (by have := HL.out; omega)
      have HLOW := Lib.hid hlow
      clear hlow hlt
      by_cases hin : i < n
      · have hin2 : (i : Int) < (n : Int) := by omega
        have hp := HP.out
        obtain ⟨x, b1, o1, hx, rfl, aR, nR, cR, c1, sR⟩ := HR.out.2.at (i := i) hin
        have HX := Lib.hid hx
        have g1 : wr.cell? ⟨b1, o1 + i, none⟩ = some (.slice aR nR cR) := by simpa using c1
        have SR := Lib.hid sR
        obtain ⟨C, hC⟩ : ∃ C, cmpRow x t = C := ⟨_, rfl⟩
        have HCC := Lib.hid hC
        have HFB : Hid (foundB rs t = (C == 0)) := by
          show _ = _
          unfold foundB
          rw [HLOW.out, hx, ← hC]
          rfl
        clear hx c1 sR hC
        go_wp2_with (go_at_call 77; (with_reducible refine (c_cmpS x t pb _ _ _ _ _ _ _ HP.out SR.out HB.out).mono ?_); rw [HCC.out]; rintro e w1 ⟨rfl, hw1⟩; obtain rfl := hw1.symm)
        go_ret2
        exact ⟨by rw [HLOW.out, HFB.out]; rfl, rfl⟩
      · obtain rfl : i = n := by omega
        have HFB : Hid (foundB rs t = false) := by
          show _ = _
          unfold foundB
          rw [HLOW.out, List.getElem?_eq_none (by have := HL.out; omega)]
        go_wp2
        go_ret2
        exact ⟨by rw [HLOW.out, HFB.out]; rfl, rfl⟩
set_option maxRecDepth 100000 in
theorem c_find (rs : List (List ByteArray)) (t : List ByteArray) (pb : Nat) (a : Option Addr) (n cap : Nat) (ab : Option Addr) (m cb : Nat) (w : World) (hp : w.cell? ⟨pb, 0, none⟩ = some orderV) (hi : w.cell? ⟨pb, 1, none⟩ = some (.slice a n cap)) (hr : ItemsAt w a n rs) (hb : StrsAt w ab m t) (hc : Cut rs t) (hn : n ≤ 1000000000) :
    Calls Tryz.prog 61 #[.pointer (some ⟨pb, 0, none⟩), .slice ab m cb] w fun e w' => e = .returned (.tuple #[.int .i64 (lowB rs t : Nat), .bool (foundB rs t)]) ∧ w' = w := by
  have BS := Lib.hid (c_bsf rs t pb a n cap ab m cb w hp hr hb hc hn)
  unfold cmpV at BS
  clear hp hr hb hc
  go_enter Tryz.func61, Tryz.ntmps61
  go_wp2_with (go_at_call 76; (with_reducible refine BS.out.mono ?_); rintro e w1 ⟨rfl, hw1⟩; obtain rfl := hw1.symm)
  go_ret2
  exact ⟨rfl, rfl⟩
end Go.Proofs.YtpgbenijjodoeaaGreat
