/- The document's trie: the walks of begins, Count and Follow. -/
import Derived.Test.YthjpfplebbnbpaaGreatRPut
import Derived.Test.YthjpfplebbnbpaaGreatSks
namespace Go.Proofs.YthjpfplebbnbpaaGreat
open Go.ChangeShapes Go.WideShapes Go.ChangeAt Go.RowKit
set_option maxRecDepth 100000 in
theorem c_rbegins (xs ys : List ByteArray) (aa : Option Addr) (n cap : Nat) (ab : Option Addr) (m cb : Nat) (w : World) (ha : StrsAt w aa n xs) (hb : StrsAt w ab m ys) :
    Calls Tryz.prog 49 #[.slice aa n cap, .slice ab m cb] w fun e w' => e = .returned (.bool (decide (xs.take ys.length = ys))) ∧ Ext w w' := by
  have HA := Lib.hid ha
  have HB := Lib.hid hb
  have HL := Lib.hid ha.2.1
  have HM := Lib.hid hb.2.1
  have hn : n ≤ 9223372036854775807 := ha.1
  have hm : m ≤ 9223372036854775807 := hb.1
  clear ha hb
  by_cases hnm : n < m
  · have h1 : (n : Int) < (m : Int) := by omega
    have HF : Hid (decide (xs.take ys.length = ys) = false) := decide_eq_false (fun e => by
      have := congrArg List.length e
      rw [List.length_take] at this
      have := HL.out
      have := HM.out
      omega)
    clear hnm
    go_enter Tryz.func49, Tryz.ntmps49
    go_wp2
    go_returns
    exact ⟨by rw [HF.out]; rfl, Below.refl _ _⟩
  · have h1 : ¬ (n : Int) < (m : Int) := by omega
    go_enter Tryz.func49, Tryz.ntmps49
    go_wp2
    go_loopw [5] (fun i wj => ∃ k, k ≤ m ∧ i = .int .i64 (k : Int) ∧ Ext w wj ∧ xs.take k = ys.take k) (fun i _ => m - (intOf i).toNat)
    case atStart => exact ⟨0, by omega, rfl, Below.refl _ _, rfl⟩
    case round =>
      obtain ⟨k, hk, rfl, hw, hq⟩ := hrel
      have HQ := Lib.hid hq
      have HW := Lib.hid hw
      clear hq
      by_cases hlt : k < m
      · obtain ⟨x, b1, o1, hx, rfl, h1⟩ := (HA.out.keep hw).2.at (show k < n by omega)
        obtain ⟨y, b2, o2, hy, rfl, h2⟩ := (HB.out.keep hw).2.at hlt
        have HX := Lib.hid hx
        have HY := Lib.hid hy
        have g1 : wr.cell? ⟨b1, o1 + k, none⟩ = some (.string x) := by simpa [strAt] using h1
        have g2 : wr.cell? ⟨b2, o2 + k, none⟩ = some (.string y) := by simpa [strAt] using h2
        have hkn : (k : Int) < (n : Int) := by omega
        have hkm : (k : Int) < (m : Int) := by omega
        clear hx hy h1 h2 hw
        obtain ⟨q, eq⟩ : ∃ b, (x.toList == y.toList) = b := ⟨_, rfl⟩
        have EQ := Lib.hid ((beq_bytes x y).symm.trans eq)
        cases q with
        | false =>
          have HF : Hid (decide (xs.take ys.length = ys) = false) := decide_eq_false (fun e => by
            have h8 : (xs.take ys.length)[k]? = some y := by rw [e]; exact HY.out
            rw [List.getElem?_take, if_pos (by have := HM.out; omega), HX.out] at h8
            cases h8
            have := EQ.out
            simp at this)
          go_wp2
          go_quiet (fail)
          go_wp2
          go_returns
          exact ⟨by rw [HF.out]; rfl, ext_drewN HW.out _⟩
        | true =>
          go_wp2
          go_quiet (fail)
          go_wp2
          go_roundw
          case rel => exact ⟨k + 1, by omega, by go_num, ext_drewN HW.out _, take_eq_succ HX.out HY.out HQ.out (by simpa using EQ.out)⟩
          case measure => simp [intOf]; omega
      · obtain rfl : k = m := by omega
        have hge : ¬ (k : Int) < (k : Int) := by omega
        have HF : Hid (decide (xs.take ys.length = ys) = true) := decide_eq_true (by
          have h := HQ.out
          rw [List.take_of_length_le (l := ys) (by have := HM.out; omega)] at h
          rw [HM.out]
          exact h)
        go_wp2
        go_returns
        exact ⟨by rw [HF.out]; rfl, HW.out⟩
theorem nil_eqRT (w : World) : (binOp .eql 29 (.pointer none) (.pointer none)).run Tryz.prog w = .ok (.bool true) w := by kernel_rfl
theorem ptr_eqRT (w : World) (b : Nat) : (binOp .eql 29 (.pointer (some ⟨b, 0, none⟩)) (.pointer none)).run Tryz.prog w = .ok (.bool false) w := by kernel_rfl
theorem c_rcountNil (ab : Option Addr) (m cb : Nat) (w : World) : Calls Tryz.prog 11 #[.pointer none, .slice ab m cb] w fun e w' => e = .returned (.int .i64 0) ∧ w' = w := by
  have eqn := nil_eqRT
  go_enter Tryz.func11, Tryz.ntmps11
  go_wp2
  go_returns
  exact ⟨rfl, rfl⟩
theorem countP_take (ways : List (List ByteArray)) (b : List ByteArray) {k : Nat} {x : List ByteArray} (h : ways[k]? = some x) : countP (ways.take (k + 1)) b = countP (ways.take k) b + if x.take b.length = b then 1 else 0 := by
  unfold countP
  rw [take_at h, List.filter_append, List.length_append]
  congr 1
  by_cases h2 : x.take b.length = b <;> simp [h2]
theorem countP_le (ways : List (List ByteArray)) (b : List ByteArray) : countP ways b ≤ ways.length := List.length_filter_le _ _
set_option maxRecDepth 100000 in
theorem c_rcount (lo pt d : Nat) (ways : List (List ByteArray)) (b : List ByteArray) (ab : Option Addr) (m cb : Nat) (w : World) (h : RTrie w lo pt d ways) (hb : StrsAt w ab m b) (hn : ways.length ≤ 1000000) :
    Calls Tryz.prog 11 #[.pointer (some ⟨pt, 0, none⟩), .slice ab m cb] w fun e w' => e = .returned (.int .i64 (countP ways b : Nat)) ∧ Ext w w' := by
  have H := Lib.hid h
  have HB := Lib.hid hb
  obtain ⟨aw, cw, h1, it⟩ := h.items
  have C1 := Lib.hid h1
  have IT := Lib.hid it
  have eqn := ptr_eqRT
  obtain ⟨n, hnn⟩ : ∃ n, ways.length = n := ⟨_, rfl⟩
  have HN := Lib.hid hnn
  rw [hnn] at hn IT C1
  clear h hb h1 it hnn
  go_enter Tryz.func11, Tryz.ntmps11
  have c1 := C1.out
  go_wp2
  go_loopw [5, 6] (fun v5 v6 wj => ∃ k c : Nat, k ≤ n ∧ c ≤ k ∧ v6 = .int .i64 (k : Int) ∧ v5 = .int .i64 (c : Int) ∧ c = countP (ways.take k) b ∧ Ext w wj) (fun _ v6 _ => n - (intOf v6).toNat)
  case atStart => exact ⟨0, 0, Nat.zero_le _, Nat.le_refl _, rfl, rfl, by simp [countP], Below.refl _ _⟩
  clear c1
  case round =>
    obtain ⟨k, c, hk, hck, rfl, rfl, hc, hw⟩ := hrel
    have HC := Lib.hid hc
    have HW := Lib.hid hw
    have c1 := keep hw C1.out
    clear hc
    by_cases hlt : k < n
    · have hki : (k : Int) < (n : Int) := by omega
      obtain ⟨x, b1, o1, hx, rfl, a5, n5, c5, g1, g2⟩ := (IT.out.keep hw).2.at hlt
      have g1 : wr.cell? ⟨b1, o1 + k, none⟩ = some (.slice a5 n5 c5) := by simpa using g1
      obtain ⟨q, hq⟩ : ∃ q, decide (x.take b.length = b) = q := ⟨_, rfl⟩
      have BE : Hid (Calls Tryz.prog 49 #[.slice a5 n5 c5, .slice ab m cb] wr fun e w' => e = .returned (.bool q) ∧ Ext wr w') := by
        have := c_rbegins x b a5 n5 c5 ab m cb wr g2 (HB.out.keep hw)
        rwa [hq] at this
      have ST : Hid (countP (ways.take (k + 1)) b = c + if q = true then 1 else 0) := by
        show _ = _
        rw [countP_take ways b hx, HC.out, ← hq]
        simp
      clear hx g2 hw hq
      cases q with
      | true =>
        go_wp2_with (go_at_call 49; (with_reducible refine BE.out.mono ?_); rintro e w2 ⟨rfl, E2⟩)
        go_roundw
        case rel => exact ⟨k + 1, c + 1, by omega, by omega, by go_num, by go_num, by rw [ST.out]; rfl, ext_trans HW.out E2⟩
        case measure => simp [intOf]; omega
      | false =>
        go_wp2_with (go_at_call 49; (with_reducible refine BE.out.mono ?_); rintro e w2 ⟨rfl, E2⟩)
        go_roundw
        case rel => exact ⟨k + 1, c, by omega, by omega, by go_num, rfl, by rw [ST.out]; rfl, ext_trans HW.out E2⟩
        case measure => simp [intOf]; omega
    · obtain rfl : k = n := by omega
      have hge : ¬ (k : Int) < (k : Int) := by omega
      have HF : Hid (countP ways b = c) := by
        have := HC.out
        rw [List.take_of_length_le (by have := HN.out; omega)] at this
        exact this.symm
      go_wp2
      go_returns
      exact ⟨ret_int (by rw [HF.out]), HW.out⟩
end Go.Proofs.YthjpfplebbnbpaaGreat
