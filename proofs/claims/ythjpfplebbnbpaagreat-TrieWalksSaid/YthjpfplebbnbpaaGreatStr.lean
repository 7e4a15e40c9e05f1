/- Lists of texts; the walks of the law's texts, cmp.Compare at texts, slices.Compare at lists of texts. -/
import Derived.Test.YthjpfplebbnbpaaGreatRows
import Derived.Test.YthjpfplebbnbpaaGreatMem
namespace Go.Proofs.YthjpfplebbnbpaaGreat
open Go.ChangeShapes Go.WideShapes Go.ChangeAt Go.RowKit
def strAt (w : World) (b o : Nat) (x : ByteArray) : Prop := w.cell? ⟨b, o, none⟩ = some (.string x)
def StrsAt (w : World) (a : Option Addr) (n : Nat) (xs : List ByteArray) : Prop := n ≤ maxLen ∧ SliceAt strAt 1 w a n xs
theorem StrsAt.keep {W w : World} (hb : Ext W w) {a : Option Addr} {n : Nat} {xs : List ByteArray} (h : StrsAt W a n xs) : StrsAt w a n xs := ⟨h.1, h.2.keep fun _ _ _ => YthjpfplebbnbpaaGreat.keep hb⟩
theorem take_eq_succ {xs ys : List ByteArray} {k : Nat} {x y : ByteArray} (hx : xs[k]? = some x) (hy : ys[k]? = some y) (h : xs.take k = ys.take k) (hxy : x = y) : xs.take (k + 1) = ys.take (k + 1) := by
  rw [take_at hx, take_at hy, h, hxy]
theorem c_texts (xs ys : List ByteArray) (aa : Option Addr) (n cap : Nat) (ab : Option Addr) (m cb : Nat) (w : World) (ha : StrsAt w aa n xs) (hb : StrsAt w ab m ys) :
    Calls Tryz.prog 12 #[.slice aa n cap, .slice ab m cb] w fun e w' => e = .returned (.bool (decide (xs = ys))) ∧ Ext w w' := by
  have HA := Lib.hid ha
  have HB := Lib.hid hb
  have HL := Lib.hid ha.2.1
  have HM := Lib.hid hb.2.1
  have hn := ha.1
  clear ha hb
  have hn2 : n ≤ 9223372036854775807 := hn
  clear hn
  obtain ⟨b, eb⟩ : ∃ b, decide (n = m) = b := ⟨_, rfl⟩
  have EB := Lib.hid eb
  cases b with
  | false =>
    have hne : n ≠ m := by simpa using eb
    go_enter Tryz.func12, Tryz.ntmps12
    go_wp2
    go_returns
    refine ⟨ret_bool ?_, Below.refl _ _⟩
    symm
    simp only [decide_eq_false_iff_not]
    rintro rfl
    exact hne (HL.out.symm.trans HM.out)
  | true =>
    obtain rfl : n = m := by simpa using eb
    clear eb
    go_enter Tryz.func12, Tryz.ntmps12
    go_wp2
    go_loopw [5] (fun i wj => ∃ k, k ≤ n ∧ i = .int .i64 (k : Int) ∧ Ext w wj ∧ xs.take k = ys.take k) (fun i _ => n - (intOf i).toNat)
    case atStart => exact ⟨0, by omega, rfl, Below.refl _ _, rfl⟩
    case round =>
      obtain ⟨k, hk, rfl, hw, hq⟩ := hrel
      have HQ := Lib.hid hq
      clear hq
      by_cases hlt : k < n
      · obtain ⟨x, b1, o1, hx, rfl, h1⟩ := (HA.out.keep hw).2.at hlt
        obtain ⟨y, b2, o2, hy, rfl, h2⟩ := (HB.out.keep hw).2.at hlt
        have HX := Lib.hid hx
        have HY := Lib.hid hy
        have g1 : wr.cell? ⟨b1, o1 + k, none⟩ = some (.string x) := by simpa [strAt] using h1
        have g2 : wr.cell? ⟨b2, o2 + k, none⟩ = some (.string y) := by simpa [strAt] using h2
        clear hx hy h1 h2
        obtain ⟨q, eq⟩ : ∃ b, (x.toList == y.toList) = b := ⟨_, rfl⟩
        have EQ := Lib.hid ((beq_bytes x y).symm.trans eq)
        cases q with
        | false =>
          go_wp2
          go_quiet (fail)
          go_wp2
          go_ret
          refine ⟨ret_bool ?_, ext_drewN hw _⟩
          symm
          simp only [decide_eq_false_iff_not]
          rintro rfl
          have e := HX.out.symm.trans HY.out
          cases e
          have := EQ.out
          simp at this
        | true =>
          go_wp2
          go_quiet (fail)
          go_wp2
          go_roundw
          case rel => exact ⟨k + 1, by omega, by go_num, ext_drewN hw _, take_eq_succ HX.out HY.out HQ.out (by simpa using EQ.out)⟩
          case measure => simp [intOf]; omega
      · go_wp2
        go_ret
        refine ⟨ret_bool ?_, hw⟩
        symm
        have h := HQ.out
        rw [List.take_of_length_le (by have := HL.out; omega), List.take_of_length_le (by have := HM.out; omega)] at h
        simpa using h
/-- Is a text below another? -/
def ltB (a b : ByteArray) : Bool := Op.bytesLess a.toList b.toList
/-- What cmp.Compare says of two texts. -/
def cmpB (a b : ByteArray) : Int := if ltB a b = true then -1 else if a = b then 0 else 1
theorem c_cmp (a b : ByteArray) (w : World) : Calls Tryz.prog 91 #[.string a, .string b] w fun e w' => e = .returned (.int .i64 (cmpB a b)) ∧ w' = w := by
  obtain ⟨p, hp⟩ : ∃ p, Op.bytesLess a.toList b.toList = p := ⟨_, rfl⟩
  obtain ⟨q, hq⟩ : ∃ q, (a.toList == b.toList) = q := ⟨_, rfl⟩
  have HC : Hid (cmpB a b = if p = true then -1 else if q = true then 0 else 1) := by
    show _ = _
    rw [beq_bytes] at hq
    unfold cmpB ltB
    rw [hp, ← hq]
    simp
  have ea : (a.toList == a.toList) = true := by simp
  have eb : (b.toList == b.toList) = true := by simp
  cases p with
  | true =>
    go_enter Tryz.func91, Tryz.ntmps91
    go_wp2
    go_returns
    exact ⟨by rw [HC.out]; rfl, rfl⟩
  | false =>
    cases q with
    | true =>
      go_enter Tryz.func91, Tryz.ntmps91
      go_wp2
      go_returns
      exact ⟨by rw [HC.out]; rfl, rfl⟩
    | false =>
      go_enter Tryz.func91, Tryz.ntmps91
      go_wp2
      go_returns
      exact ⟨by rw [HC.out]; rfl, rfl⟩
/-- What slices.Compare says of two lists. -/
def cmpRow : List ByteArray → List ByteArray → Int
  | [], [] => 0
  | [], _ :: _ => -1
  | _ :: _, [] => 1
  | x :: xs, y :: ys => if cmpB x y ≠ 0 then cmpB x y else cmpRow xs ys
theorem cmpRow_done (ys : List ByteArray) : cmpRow [] ys = if 0 < ys.length then -1 else 0 := by
  cases ys <;> simp [cmpRow]
theorem cmpRow_long (x : ByteArray) (xs : List ByteArray) : cmpRow (x :: xs) [] = 1 := rfl
set_option maxRecDepth 20000 in
theorem c_sCompare (xs ys : List ByteArray) (aa : Option Addr) (n cap : Nat) (ab : Option Addr) (m cb : Nat) (w : World) (ha : StrsAt w aa n xs) (hb : StrsAt w ab m ys) :
    Calls Tryz.prog 75 #[.slice aa n cap, .slice ab m cb] w fun e w' => e = .returned (.int .i64 (cmpRow xs ys)) ∧ w' = w := by
  have HA := Lib.hid ha
  have HB := Lib.hid hb
  have HL := Lib.hid ha.2.1
  have HM := Lib.hid hb.2.1
  have hn : n ≤ 9223372036854775807 := ha.1
  have hm : m ≤ 9223372036854775807 := hb.1
  clear ha hb
  obtain ⟨R, hR⟩ : ∃ R, R = cmpRow xs ys := ⟨_, rfl⟩
  rw [← hR]
  have FIN := Lib.hid hR
  clear hR
  go_enter Tryz.func75, Tryz.ntmps75
  go_wp2
  go_loopw [11] (fun i wj => ∃ k : Nat, k ≤ n ∧ k ≤ m ∧ i = .int .i64 (k : Int) ∧ wj = w ∧ R = cmpRow (xs.drop k) (ys.drop k)) (fun i _ => n - (intOf i).toNat)
  case atStart => exact ⟨0, by omega, by omega, rfl, rfl, by rw [FIN.out, List.drop_zero, List.drop_zero]⟩
  case round =>
    obtain ⟨k, hk, hkm, rfl, rfl, hq⟩ := hrel
    have HQ := Lib.hid hq
    clear hq
    by_cases hlt : k < n
    · have hki : (k : Int) < (n : Int) := by omega
      obtain ⟨x, b1, o1, hx, rfl, h1⟩ := HA.out.2.at hlt
      have HX := Lib.hid hx
      have g1 : wr.cell? ⟨b1, o1 + k, none⟩ = some (.string x) := by simpa [strAt] using h1
      clear hx h1
      by_cases hlm : k < m
      · have hkmi : (k : Int) < (m : Int) := by omega
        have hnm : ¬ (m : Int) ≤ (k : Int) := by omega
        obtain ⟨y, b2, o2, hy, rfl, h2⟩ := HB.out.2.at hlm
        have HY := Lib.hid hy
        have g2 : wr.cell? ⟨b2, o2 + k, none⟩ = some (.string y) := by simpa [strAt] using h2
        clear hy h2
        obtain ⟨C, hC⟩ : ∃ C, cmpB x y = C := ⟨_, rfl⟩
        have HC := Lib.hid hC
        have HST : Hid (R = if C ≠ 0 then C else cmpRow (xs.drop (k + 1)) (ys.drop (k + 1))) := by
          show _ = _
          rw [HQ.out, drop_at HX.out, drop_at HY.out, cmpRow, hC]
        clear hC
        by_cases h0 : C = 0
        · subst h0
          go_wp2_with (go_at_call 91; (with_reducible refine (c_cmp x y _).mono ?_); rw [HC.out]; rintro e w1 ⟨rfl, hw1⟩; obtain rfl := hw1.symm)
          go_roundw
          case rel => exact ⟨k + 1, by omega, by omega, by go_num, by first | trivial | rfl, by rw [HST.out]; rfl⟩
          case measure => simp [intOf]; omega
        · have t1 : (C != 0) = true := by simpa using h0
          have H0 := Lib.hid h0
          clear h0
          go_wp2_with (go_at_call 91; (with_reducible refine (c_cmp x y _).mono ?_); rw [HC.out]; rintro e w1 ⟨rfl, hw1⟩; obtain rfl := hw1.symm)
          go_returns
          exact ⟨by rw [HST.out, if_pos H0.out]; rfl, rfl⟩
      · obtain rfl : k = m := by omega
        have hnm : (k : Int) ≤ (k : Int) := Int.le_refl _
        go_wp2
        go_returns
        exact ⟨by rw [HQ.out, drop_at HX.out, List.drop_of_length_le (l := ys) (by have := HM.out; omega)]; rfl, rfl⟩
    · obtain rfl : k = n := by omega
      have hge : ¬ (k : Int) < (k : Int) := by omega
      obtain ⟨q, hq⟩ : ∃ q, decide ((k : Int) < (m : Int)) = q := ⟨_, rfl⟩
      have HE : Hid (R = if q = true then -1 else 0) := by
        show _ = _
        rw [HQ.out, List.drop_of_length_le (l := xs) (by have := HL.out; omega), cmpRow_done, List.length_drop, HM.out, ← hq]
        by_cases h : k < m
        · rw [if_pos (by omega), if_pos (by simpa using h)]
        · rw [if_neg (by omega), if_neg (by simpa using h)]
      cases q with
      | true =>
        have h5 : (k : Int) < (m : Int) := by simpa using hq
        clear hq
        go_wp2
        go_returns
        exact ⟨by rw [HE.out]; rfl, rfl⟩
      | false =>
        have h5 : ¬ (k : Int) < (m : Int) := by simpa using hq
        clear hq
        go_wp2
        go_returns
        exact ⟨by rw [HE.out]; rfl, rfl⟩
theorem c_tCompare (xs ys : List ByteArray) (aa : Option Addr) (n cap : Nat) (ab : Option Addr) (m cb : Nat) (w : World) (ha : StrsAt w aa n xs) (hb : StrsAt w ab m ys) :
    Calls Tryz.prog 66 #[.slice aa n cap, .slice ab m cb] w fun e w' => e = .returned (.int .i64 (cmpRow xs ys)) ∧ w' = w := by
  have HA := Lib.hid ha
  have HB := Lib.hid hb
  clear ha hb
  go_enter Tryz.func66, Tryz.ntmps66
  go_wp2_with (go_at_call 75; (with_reducible refine (c_sCompare xs ys _ _ _ _ _ _ _ HA.out HB.out).mono ?_); rintro e w1 ⟨rfl, hw1⟩; obtain rfl := hw1.symm)
  go_returns
  exact ⟨rfl, rfl⟩
end Go.Proofs.YthjpfplebbnbpaaGreat
