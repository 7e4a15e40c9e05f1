/- The walk of slices.Equal at texts. -/
import Derived.Test.YthjpfplebbnbpaaGreatAll
namespace Go.Proofs.YthjpfplebbnbpaaGreat
open Go.ChangeShapes Go.WideShapes Go.ChangeAt Go.RowKit
theorem c_equal (xs ys : List ByteArray) (aa : Option Addr) (n cap : Nat) (ab : Option Addr) (m cb : Nat) (w : World) (ha : StrsAt w aa n xs) (hb : StrsAt w ab m ys) :
    Calls Tryz.prog 78 #[.slice aa n cap, .slice ab m cb] w fun e w' => e = .returned (.bool (decide (xs = ys))) ∧ ∃ q, w' = w.drewN q := by
  have HA := Lib.hid ha
  have HB := Lib.hid hb
  have HL := Lib.hid ha.2.1
  have HM := Lib.hid hb.2.1
  have hn := ha.1
  clear ha hb
  have hn2 : n ≤ 9223372036854775807 := hn
  clear hn
  obtain ⟨b, eb⟩ : ∃ b, decide (n = m) = b := ⟨_, rfl⟩
  have EB := Lib.hid eb
  cases b with
  | false =>
    have hne : n ≠ m := by simpa using eb
    go_enter Tryz.func78, Tryz.ntmps78
    go_wp2
    go_returns
    refine ⟨ret_bool ?_, 0, rfl⟩
    symm
    simp only [decide_eq_false_iff_not]
    rintro rfl
    exact hne (HL.out.symm.trans HM.out)
  | true =>
    obtain rfl : n = m := by simpa using eb
    clear eb
    go_enter Tryz.func78, Tryz.ntmps78
    go_wp2
    go_loopw [13] (fun i wj => ∃ k, k ≤ n ∧ i = .int .i64 (k : Int) ∧ (∃ q, wj = w.drewN q) ∧ xs.take k = ys.take k) (fun i _ => n - (intOf i).toNat)
    case atStart => exact ⟨0, by omega, rfl, ⟨0, rfl⟩, rfl⟩
    case round =>
      obtain ⟨k, hk, rfl, ⟨q0, hq0⟩, hq⟩ := hrel
      have hw : Ext w wr := by rw [hq0]; exact ext_drewN (Below.refl _ _) _
      have Q0 := Lib.hid hq0
      clear hq0
      have HQ := Lib.hid hq
      clear hq
      by_cases hlt : k < n
      · obtain ⟨x, b1, o1, hx, rfl, h1⟩ := (HA.out.keep hw).2.at hlt
        obtain ⟨y, b2, o2, hy, rfl, h2⟩ := (HB.out.keep hw).2.at hlt
        have HX := Lib.hid hx
        have HY := Lib.hid hy
        have g1 : wr.cell? ⟨b1, o1 + k, none⟩ = some (.string x) := by simpa [strAt] using h1
        have g2 : wr.cell? ⟨b2, o2 + k, none⟩ = some (.string y) := by simpa [strAt] using h2
        clear hx hy h1 h2
        obtain ⟨q, eq⟩ : ∃ b, (x.toList == y.toList) = b := ⟨_, rfl⟩
        have EQ := Lib.hid ((beq_bytes x y).symm.trans eq)
        cases q with
        | false =>
          go_wp2
          go_quiet (fail)
          go_wp2
          go_ret
          refine ⟨ret_bool ?_, _, by rw [Q0.out, World.drewN_drewN]⟩
          symm
          simp only [decide_eq_false_iff_not]
          rintro rfl
          have e := HX.out.symm.trans HY.out
          cases e
          have := EQ.out
          simp at this
        | true =>
          go_wp2
          go_quiet (fail)
          go_wp2
          go_roundw
          case rel => exact ⟨k + 1, by omega, by go_num, ⟨_, by rw [Q0.out, World.drewN_drewN]⟩, take_eq_succ HX.out HY.out HQ.out (by simpa using EQ.out)⟩
          case measure => simp [intOf]; omega
      · go_wp2
        go_ret
        refine ⟨ret_bool ?_, _, Q0.out⟩
        symm
        have h := HQ.out
        rw [List.take_of_length_le (by have := HL.out; omega), List.take_of_length_le (by have := HM.out; omega)] at h
        simpa using h
theorem c_eqF (xs ys : List ByteArray) (aa : Option Addr) (n cap : Nat) (ab : Option Addr) (m cb : Nat) (w : World) (ha : StrsAt w aa n xs) (hb : StrsAt w ab m ys) :
    Calls Tryz.prog 77 #[.slice aa n cap, .slice ab m cb] w fun e w' => e = .returned (.bool (decide (xs = ys))) ∧ ∃ q, w' = w.drewN q := by
  have C := Lib.hid (c_equal xs ys aa n cap ab m cb w ha hb)
  clear ha hb
  generalize decide (xs = ys) = b at C ⊢
  go_enter Tryz.func77, Tryz.ntmps77
  go_wp2_with (go_at_call 78; (with_reducible refine C.out.mono ?_); rintro e w1 ⟨rfl, q, hq⟩; obtain rfl := hq.symm)
  go_returns
  exact ⟨rfl, q, rfl⟩
theorem c_cmpF (xs ys : List ByteArray) (aa : Option Addr) (n cap : Nat) (ab : Option Addr) (m cb : Nat) (w : World) (ha : StrsAt w aa n xs) (hb : StrsAt w ab m ys) :
    Calls Tryz.prog 74 #[.slice aa n cap, .slice ab m cb] w fun e w' => e = .returned (.int .i64 (cmpRow xs ys)) ∧ w' = w := by
  have C := Lib.hid (c_sCompare xs ys aa n cap ab m cb w ha hb)
  clear ha hb
  generalize cmpRow xs ys = b at C ⊢
  go_enter Tryz.func74, Tryz.ntmps74
  go_wp2_with (go_at_call 75; (with_reducible refine C.out.mono ?_); rintro e w1 ⟨rfl, hw1⟩; obtain rfl := hw1.symm)
  go_returns
  exact ⟨rfl, rfl⟩
end Go.Proofs.YthjpfplebbnbpaaGreat
