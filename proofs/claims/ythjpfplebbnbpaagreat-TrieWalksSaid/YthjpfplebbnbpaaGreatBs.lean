/- The walks of cmp.Less and slices.BinarySearch at texts. -/
import Derived.Test.YthjpfplebbnbpaaGreatTri
namespace Go.Proofs.YthjpfplebbnbpaaGreat
open Go.ChangeShapes Go.WideShapes Go.ChangeAt Go.RowKit
theorem c_nan (x : ByteArray) (w : World) : Calls Tryz.prog 111 #[.string x] w fun e w' => e = .returned (.bool false) ∧ w' = w := by
  have ea : (x.toList == x.toList) = true := by simp
  go_enter Tryz.func111, Tryz.ntmps111
  go_wp2
  go_returns
  exact ⟨rfl, rfl⟩
theorem c_nan2 (x : ByteArray) (w : World) : Calls Tryz.prog 95 #[.string x] w fun e w' => e = .returned (.bool false) ∧ w' = w := by
  have ea : (x.toList == x.toList) = true := by simp
  go_enter Tryz.func95, Tryz.ntmps95
  go_wp2
  go_returns
  exact ⟨rfl, rfl⟩
theorem c_less (x y : ByteArray) (w : World) : Calls Tryz.prog 94 #[.string x, .string y] w fun e w' => e = .returned (.bool (ltB x y)) ∧ w' = w := by
  obtain ⟨p, hp⟩ : ∃ p, Op.bytesLess x.toList y.toList = p := ⟨_, rfl⟩
  have HP : Hid (ltB x y = p) := hp
  go_enter Tryz.func94, Tryz.ntmps94
  go_wp2_with (go_at_call 111; (with_reducible refine (c_nan _ _).mono ?_); rintro e w1 ⟨rfl, hw1⟩; obtain rfl := hw1.symm)
  go_returns
  exact ⟨by rw [HP.out]; first | rfl | (cases p <;> rfl), rfl⟩
/-- How many of the first keys are below t. -/
def lowS (ks : List ByteArray) (t : ByteArray) : Nat := (ks.takeWhile fun k => ltB k t).length
/-- Is it among the keys? -/
def foundS (ks : List ByteArray) (t : ByteArray) : Bool := match ks[lowS ks t]? with
  | some x => x.toList == t.toList
  | none => false
theorem lowS_is {ks : List ByteArray} {t : ByteArray} {r : Nat} (h1 : ∀ k x, k < r → ks[k]? = some x → ltB x t = true) (h2 : ∀ x, ks[r]? = some x → ltB x t = false) (hr : r ≤ ks.length) : lowS ks t = r := takeWhile_len _ ks r h1 h2 hr
def CutS (ks : List ByteArray) (t : ByteArray) : Prop := ∀ (i j : Nat) (x y : ByteArray), i ≤ j → ks[i]? = some x → ks[j]? = some y → ltB y t = true → ltB x t = true
set_option maxRecDepth 100000 in
set_option maxHeartbeats 4000000 in
theorem c_bs (ks : List ByteArray) (t : ByteArray) (a : Option Addr) (n cap : Nat) (w : World) (hr : StrsAt w a n ks) (hc : CutS ks t) (hn : n ≤ 1000000000) :
    Calls Tryz.prog 82 #[.slice a n cap, .string t] w fun e w' => e = .returned (.tuple #[.int .i64 (lowS ks t : Nat), .bool (foundS ks t)]) ∧ w' = w := by
  have HR := Lib.hid hr
  have HC := Lib.hid hc
  have HL := Lib.hid hr.2.1
  clear hr hc
  go_enter Tryz.func82, Tryz.ntmps82
  go_wp2
  go_loopw [7, 8] (fun v9 v10 wj => ∃ i j : Nat, i ≤ j ∧ j ≤ n ∧ v9 = .int .i64 (i : Int) ∧ v10 = .int .i64 (j : Int) ∧ wj = w ∧ (∀ k x, k < i → ks[k]? = some x → ltB x t = true) ∧ (∀ x, ks[j]? = some x → ltB x t = false)) (fun v9 v10 _ => (intOf v10).toNat - (intOf v9).toNat)
  case atStart => exact ⟨0, n, Nat.zero_le _, Nat.le_refl _, rfl, rfl, rfl, fun k x hk => absurd hk (Nat.not_lt_zero _), fun x hx => by rw [List.getElem?_eq_none (by have := HL.out; omega)] at hx; cases hx⟩
  case round =>
    obtain ⟨i, j, hij, hjn, rfl, rfl, rfl, h1, h2⟩ := hrel
    have H1 := Lib.hid h1
    have H2 := Lib.hid h2
    clear h1 h2
    by_cases hlt : i < j
    · have hlti : (i : Int) < (j : Int) := by omega
      go_upto_region 5 with (fail)
      obtain ⟨h, hh⟩ : ∃ h : Nat, ((i : Int) + (j : Int)) / 2 = (h : Int) := ⟨(i + j) / 2, by omega⟩
      have hih : i ≤ h := by omega
      have hhj : h < j := by omega
      rw [hh]
      clear hh
      obtain ⟨x, b1, o1, hx, rfl, c1⟩ := HR.out.2.at (i := h) (by omega)
      have HX := Lib.hid hx
      have g1 : wr.cell? ⟨b1, o1 + h, none⟩ = some (.string x) := by simpa [strAt] using c1
      have hhn : (h : Int) < (n : Int) := by omega
      obtain ⟨C, hC⟩ : ∃ C, ltB x t = C := ⟨_, rfl⟩
      have HCC := Lib.hid hC
      clear hx c1 hC
      cases C with
      | true =>
        have HNX : Hid (∀ k y, k < h + 1 → ks[k]? = some y → ltB y t = true) := fun k y hk hy => HC.out k h y x (by omega) hy HX.out HCC.out
        go_wp2_with (go_at_call 94; (with_reducible refine (c_less x t _).mono ?_); rw [HCC.out]; rintro e w1 ⟨rfl, hw1⟩; obtain rfl := hw1.symm)
        go_roundw
        case rel => exact ⟨h + 1, j, by omega, hjn, by go_num, rfl, by first | trivial | rfl, HNX.out, H2.out⟩
        case measure => simp [intOf]; omega
      | false =>
        have HNX : Hid (∀ y, ks[h]? = some y → ltB y t = false) := fun y hy => by
          have := HX.out.symm.trans hy
          cases this
          exact HCC.out
        go_wp2_with (go_at_call 94; (with_reducible refine (c_less x t _).mono ?_); rw [HCC.out]; rintro e w1 ⟨rfl, hw1⟩; obtain rfl := hw1.symm)
        go_roundw
        case rel => exact ⟨i, h, by omega, by omega, rfl, rfl, by first | trivial | rfl, H1.out, HNX.out⟩
        case measure => simp [intOf]; omega
    · obtain rfl : i = j := by omega
      have hge : ¬ (i : Int) < (i : Int) := by omega
      have hlow : lowS ks t = i := lowS_is H1.out H2.out (by have := HL.out; omega)
      have HLOW := Lib.hid hlow
      clear hlow hlt
      by_cases hin : i < n
      · have hin2 : (i : Int) < (n : Int) := by omega
        obtain ⟨x, b1, o1, hx, rfl, c1⟩ := HR.out.2.at (i := i) hin
        have g1 : wr.cell? ⟨b1, o1 + i, none⟩ = some (.string x) := by simpa [strAt] using c1
        obtain ⟨q, hq⟩ : ∃ q, (x.toList == t.toList) = q := ⟨_, rfl⟩
        have HFB : Hid (foundS ks t = q) := by
          show _ = _
          unfold foundS
          rw [HLOW.out, hx]
          exact hq
        clear hx c1
        cases q with
        | true =>
          go_wp2_with (go_at_call 95; (with_reducible refine (c_nan2 _ _).mono ?_); rintro e w1 ⟨rfl, hw1⟩; obtain rfl := hw1.symm)
          go_ret2
          exact ⟨by rw [HLOW.out, HFB.out]; rfl, rfl⟩
        | false =>
          go_wp2_with (go_at_call 95; (with_reducible refine (c_nan2 _ _).mono ?_); rintro e w1 ⟨rfl, hw1⟩; obtain rfl := hw1.symm)
          go_ret2
          exact ⟨by rw [HLOW.out, HFB.out]; rfl, rfl⟩
      · obtain rfl : i = n := by omega
        have HFB : Hid (foundS ks t = false) := by
          show _ = _
          unfold foundS
          rw [HLOW.out, List.getElem?_eq_none (by have := HL.out; omega)]
        go_wp2_with (go_at_call 95; (with_reducible refine (c_nan2 _ _).mono ?_); rintro e w1 ⟨rfl, hw1⟩; obtain rfl := hw1.symm)
        go_ret2
        exact ⟨by rw [HLOW.out, HFB.out]; rfl, rfl⟩
end Go.Proofs.YthjpfplebbnbpaaGreat
