/- The walks of the document's lexer of words, and that it is the program's. -/
import Derived.Test.YtcphjfggjjonpaaLex
namespace Go.Proofs.Ytcphjfggjjonpaa
open Go.ChangeShapes Go.WideShapes Go.ChangeAt Go.RowKit
def bt (s : ByteArray) (p : Nat) : Nat := (s.get! p).toNat
theorem bt_at (s : ByteArray) (p : Nat) (h : p < s.size) : s[p].toNat = bt s p := by
  unfold bt
  congr 1
  show s[p] = s.data[p]!
  rw [getElem!_pos s.data p (by simpa using h)]
  rfl
def rsmall (s : ByteArray) (p : Nat) : Nat := if 97 ≤ bt s p ∧ bt s p ≤ 122 then 1 else if bt s p = 195 ∧ p + 1 < s.size ∧ 159 ≤ bt s (p + 1) ∧ bt s (p + 1) ≤ 191 ∧ bt s (p + 1) ≠ 183 then 2 else 0
def rgreat (s : ByteArray) (p : Nat) : Nat := if 65 ≤ bt s p ∧ bt s p ≤ 90 then 1 else if bt s p = 195 ∧ p + 1 < s.size ∧ 128 ≤ bt s (p + 1) ∧ bt s (p + 1) ≤ 158 ∧ bt s (p + 1) ≠ 151 then 2 else 0
def rpart (s : ByteArray) (p : Nat) : Nat := if s.size ≤ p then 0 else if (48 ≤ bt s p ∧ bt s p ≤ 57) ∨ bt s p = 95 then 1 else rsmall s p + rgreat s p
theorem c_small (s : ByteArray) (p : Nat) (w : World) (hp : p < s.size) (hs : s.size ≤ maxLen) : Calls Try.prog 73 #[.string s, .int .i64 (p : Int)] w fun e w' => e = .returned (.int .i64 (rsmall s p : Nat)) ∧ w' = w := by
  unfold maxLen at hs
  have hpi : (p : Int) < (s.size : Int) := by omega
  have hA : s[p].toNat = bt s p := bt_at s p hp
  have hB : ∀ h : p + 1 < s.size, s[p + 1].toNat = bt s (p + 1) := bt_at s (p + 1)
  go_enter Try.func73, Try.ntmps73
  go_wp2
  all_goals
    go_ret
    refine ⟨ret_int ?_, rfl⟩
    unfold rsmall
    simp only [bne_iff_ne, bne_eq_false_iff_eq, ne_eq] at *
    first | rfl | ((repeat' split) <;> omega)
theorem c_great (s : ByteArray) (p : Nat) (w : World) (hp : p < s.size) (hs : s.size ≤ maxLen) : Calls Try.prog 74 #[.string s, .int .i64 (p : Int)] w fun e w' => e = .returned (.int .i64 (rgreat s p : Nat)) ∧ w' = w := by
  unfold maxLen at hs
  have hpi : (p : Int) < (s.size : Int) := by omega
  have hA : s[p].toNat = bt s p := bt_at s p hp
  have hB : ∀ h : p + 1 < s.size, s[p + 1].toNat = bt s (p + 1) := bt_at s (p + 1)
  go_enter Try.func74, Try.ntmps74
  go_wp2
  all_goals
    go_ret
    refine ⟨ret_int ?_, rfl⟩
    unfold rgreat
    simp only [bne_iff_ne, bne_eq_false_iff_eq, ne_eq] at *
    first | rfl | ((repeat' split) <;> omega)
theorem c_part (s : ByteArray) (p : Nat) (w : World) (hs : s.size ≤ maxLen) : Calls Try.prog 75 #[.string s, .int .i64 (p : Int)] w fun e w' => e = .returned (.int .i64 (rpart s p : Nat)) ∧ w' = w := by
  have hs' := hs
  unfold maxLen at hs'
  by_cases hp : p < s.size
  · have hpi : (p : Int) < (s.size : Int) := by omega
    have hA : s[p].toNat = bt s p := bt_at s p hp
    have hsg : rsmall s p + rgreat s p ≤ 3 := by unfold rsmall rgreat; (repeat' split) <;> omega
    go_enter Try.func75, Try.ntmps75
    go_wp2_with (first | (go_at_call 73; (with_reducible refine (c_small s p _ hp hs).mono ?_); rintro e w1 ⟨rfl, rfl⟩) | (go_at_call 74; (with_reducible refine (c_great s p _ hp hs).mono ?_); rintro e w1 ⟨rfl, rfl⟩))
    all_goals
      go_ret
      refine ⟨ret_int ?_, rfl⟩
      unfold rpart
      try simp only [beq_iff_eq, beq_eq_false_iff_ne, ne_eq] at *
      rw [if_neg (by omega)]
      by_cases hc : (48 ≤ bt s p ∧ bt s p ≤ 57) ∨ bt s p = 95
      · rw [if_pos hc]
        first | rfl | omega
      · rw [if_neg hc]
        first | (exact Int.natCast_add _ _) | omega
  · go_enter Try.func75, Try.ntmps75
    go_wp2
    all_goals
      go_ret
      refine ⟨ret_int ?_, rfl⟩
      unfold rpart
      rw [if_pos (by omega)]
      rfl
def rend (s : ByteArray) : Nat → Nat → Nat
  | 0, p => p
  | f + 1, p => if rpart s p = 0 then p else rend s f (p + rpart s p)
def rkind (s : ByteArray) (p : Nat) : Int := if p < s.size ∧ (0 < rgreat s p ∨ bt s p = 95) then 2 else if p < s.size ∧ (0 < rsmall s p ∨ (48 ≤ bt s p ∧ bt s p ≤ 57)) then 1 else 0
def rword (s : ByteArray) : Int × Nat := if rkind s 0 = 0 then (0, 0) else (rkind s 0, rend s s.size 0)
def rWord (s : ByteArray) : Int := if (rword s).2 = s.size then (rword s).1 else 0
theorem rpart_le {s : ByteArray} {p : Nat} (h : p < s.size) : p + rpart s p ≤ s.size := by
  unfold rpart rsmall rgreat
  (repeat' split) <;> omega
theorem rpart_end {s : ByteArray} {p : Nat} (h : s.size ≤ p) : rpart s p = 0 := by
  unfold rpart
  rw [if_pos h]
theorem c_small0 (s : ByteArray) (w : World) (hp : 0 < s.size) (hs : s.size ≤ maxLen) : Calls Try.prog 73 #[.string s, .int .i64 0] w fun e w' => e = .returned (.int .i64 (rsmall s 0 : Nat)) ∧ w' = w := c_small s 0 w hp hs
theorem c_great0 (s : ByteArray) (w : World) (hp : 0 < s.size) (hs : s.size ≤ maxLen) : Calls Try.prog 74 #[.string s, .int .i64 0] w fun e w' => e = .returned (.int .i64 (rgreat s 0 : Nat)) ∧ w' = w := c_great s 0 w hp hs
set_option maxRecDepth 20000 in
theorem c_rword (s : ByteArray) (w : World) (hs : s.size ≤ maxLen) : Calls Try.prog 71 #[.string s, .int .i64 0] w fun e w' => e = .returned (.tuple #[.int .i64 (rword s).1, .int .i64 ((rword s).2 : Nat)]) ∧ w' = w := by
  have hs' := hs
  unfold maxLen at hs'
  obtain ⟨K, hK⟩ : ∃ K, rkind s 0 = K := ⟨_, rfl⟩
  have HK := Lib.hid hK
  clear hK
  by_cases h0 : s.size = 0
  · obtain rfl : 0 = K := by rw [← HK.out]; unfold rkind; rw [if_neg (by omega), if_neg (by omega)]
    have hlt : ¬ (0 : Int) < (s.size : Int) := by omega
    have hd : decide ((0 : Int) < (s.size : Int)) = false := by simp [h0]
    go_enter Try.func71, Try.ntmps71
    go_wp2
    go_ret2
    refine ⟨?_, rfl⟩
    unfold rword
    rw [if_pos HK.out]
    rfl
  · have hp : 0 < s.size := by omega
    have hA : s[0].toNat = bt s 0 := bt_at s 0 hp
    have hd : (0 : Int) < (s.size : Int) := by omega
    obtain ⟨A, hA1⟩ : ∃ A, rsmall s 0 = A := ⟨_, rfl⟩
    obtain ⟨G, hG1⟩ : ∃ A, rgreat s 0 = A := ⟨_, rfl⟩
    have HA := Lib.hid hA1
    have HG := Lib.hid hG1
    clear hA1 hG1
    obtain ⟨b1, hb1⟩ : ∃ b, decide (0 < A ∨ (48 ≤ bt s 0 ∧ bt s 0 ≤ 57)) = b := ⟨_, rfl⟩
    obtain ⟨b2, hb2⟩ : ∃ b, decide (0 < G ∨ bt s 0 = 95) = b := ⟨_, rfl⟩
    have H1 := Lib.hid hb1
    have H2 := Lib.hid hb2
    clear hb1 hb2
    have hKb : K = if b2 = true then 2 else if b1 = true then 1 else 0 := by
      rw [← HK.out, ← H1.out, ← H2.out]
      unfold rkind
      rw [HA.out, HG.out]
      simp [hp]
    have HKB := Lib.hid hKb
    clear hKb
    go_enter Try.func71, Try.ntmps71
    go_upto_region 2 with (fail)
    go_cut [29] (fun v wc => v = .bool b1 ∧ w = wc)
    case first =>
      go_wp2_with (first | (go_at_call 73; (with_reducible refine (c_small0 s _ hp hs).mono ?_); rw [HA.out]; rintro e w1 ⟨rfl, hwn⟩; obtain rfl := hwn.symm) | (go_at_call 74; (with_reducible refine (c_great0 s _ hp hs).mono ?_); rw [HG.out]; rintro e w1 ⟨rfl, hwn⟩; obtain rfl := hwn.symm))
      all_goals
        go_meet
        refine ⟨congrArg Value.bool ?_, rfl⟩
        rw [← H1.out, Bool.eq_iff_iff]
        simp
        try omega
    case rest =>
      obtain ⟨rfl, rfl⟩ := hcut
      obtain ⟨K1, hK1⟩ : ∃ K1 : Int, K1 = if b1 = true then 1 else 0 := ⟨_, rfl⟩
      go_upto_if 29 with (fail)
      go_cut [6] (fun v wc => v = .int .i64 K1 ∧ w = wc)
      case first =>
        cases b1 with
        | true =>
          obtain rfl : K1 = 1 := hK1
          go_wp2
          go_meet
          exact ⟨rfl, rfl⟩
        | false =>
          obtain rfl : K1 = 0 := hK1
          go_wp2
          go_meet
          exact ⟨rfl, rfl⟩
      case rest =>
        obtain ⟨rfl, rfl⟩ := hcut
        have HK1 := Lib.hid hK1
        clear hK1
        go_upto_region 4 with (fail)
        go_cut [45] (fun v wc => v = .bool b2 ∧ w = wc)
        case first =>
          go_wp2_with (first | (go_at_call 73; (with_reducible refine (c_small0 s _ hp hs).mono ?_); rw [HA.out]; rintro e w1 ⟨rfl, hwn⟩; obtain rfl := hwn.symm) | (go_at_call 74; (with_reducible refine (c_great0 s _ hp hs).mono ?_); rw [HG.out]; rintro e w1 ⟨rfl, hwn⟩; obtain rfl := hwn.symm))
          all_goals
            go_meet
            refine ⟨congrArg Value.bool ?_, rfl⟩
            rw [← H2.out, Bool.eq_iff_iff]
            simp
            try omega
        case rest =>
          obtain ⟨rfl, rfl⟩ := hcut
          go_upto_if 45 with (fail)
          go_cut [6] (fun v wc => v = .int .i64 K ∧ w = wc)
          case first =>
            cases b2 with
            | true =>
              obtain rfl : K = 2 := HKB.out
              go_wp2
              go_meet
              exact ⟨rfl, rfl⟩
            | false =>
              obtain rfl : K = K1 := HKB.out.trans HK1.out.symm
              go_wp2
              go_meet
              exact ⟨rfl, rfl⟩
          case rest =>
            obtain ⟨rfl, rfl⟩ := hcut
            by_cases h00 : K = 0
            · subst h00
              go_wp2
              go_ret2
              refine ⟨?_, rfl⟩
              unfold rword
              rw [if_pos HK.out]
              rfl
            · have hK0 : (K == 0) = false := by simpa using h00
              go_wp2
              go_loopw [7] (fun v wj => ∃ (p f : Nat), v = .int .i64 (p : Int) ∧ p ≤ s.size ∧ s.size ≤ p + f ∧ rend s s.size 0 = rend s f p ∧ wj = w) (fun v _ => s.size - (intOf v).toNat)
              case atStart => exact ⟨0, s.size, rfl, Nat.zero_le _, by omega, rfl, rfl⟩
              case round =>
                obtain ⟨p, f, rfl, hle, hf, hq, rfl⟩ := hrel
                have HQ := Lib.hid hq
                clear hq
                obtain ⟨N, hN⟩ : ∃ N, rpart s p = N := ⟨_, rfl⟩
                have HN := Lib.hid hN
                clear hN
                by_cases hN0 : N = 0
                · subst hN0
                  go_wp2_with (go_at_call 75; (with_reducible refine (c_part s p _ hs).mono ?_); rw [HN.out]; rintro e w1 ⟨rfl, hwn⟩; obtain rfl := hwn.symm)
                  go_ret2
                  refine ⟨?_, rfl⟩
                  unfold rword
                  rw [if_neg (by rw [HK.out]; exact h00), HQ.out, HK.out]
                  have he : rend s f p = p := by
                    cases f with
                    | zero => rfl
                    | succ f => rw [rend, if_pos HN.out]
                  rw [he]
                  rfl
                · have hpl : p < s.size := by
                    apply Nat.lt_of_not_le
                    intro h
                    exact hN0 (HN.out.symm.trans (rpart_end h))
                  have hpn : p + N ≤ s.size := by rw [← HN.out]; exact rpart_le hpl
                  have hNp : (0 : Int) < (N : Int) := by omega
                  go_wp2_with (go_at_call 75; (with_reducible refine (c_part s p _ hs).mono ?_); rw [HN.out]; rintro e w1 ⟨rfl, hwn⟩; obtain rfl := hwn.symm)
                  go_roundw
                  case rel =>
                    obtain ⟨f, rfl⟩ : ∃ g, f = g + 1 := ⟨f - 1, by omega⟩
                    exact ⟨p + N, f, by go_num, hpn, by omega, by rw [HQ.out, rend, if_neg (by rw [HN.out]; exact hN0), HN.out], by trivial⟩
                  case measure => simp [intOf]; omega
theorem c_rWord (s : ByteArray) (w : World) (hs : s.size ≤ maxLen) : Calls Try.prog 67 #[.string s] w fun e w' => e = .returned (.int .i64 (rWord s)) ∧ w' = w := by
  have hs' := hs
  unfold maxLen at hs'
  obtain ⟨K, hK⟩ : ∃ K, (rword s).1 = K := ⟨_, rfl⟩
  obtain ⟨E, hE⟩ : ∃ K, (rword s).2 = K := ⟨_, rfl⟩
  have HK := Lib.hid hK
  have HE := Lib.hid hE
  clear hK hE
  go_enter Try.func67, Try.ntmps67
  by_cases he : E = s.size
  · subst he
    go_wp2_with (go_at_call 71; (with_reducible refine (c_rword s _ hs).mono ?_); rw [HK.out, HE.out]; rintro e w1 ⟨rfl, hwn⟩; obtain rfl := hwn.symm)
    go_ret
    exact ⟨ret_int (by unfold rWord; rw [if_pos HE.out, HK.out]), rfl⟩
  · have he' : ((E : Int) != (s.size : Int)) = true := by simpa using fun h => he (by omega)
    go_wp2_with (go_at_call 71; (with_reducible refine (c_rword s _ hs).mono ?_); rw [HK.out, HE.out]; rintro e w1 ⟨rfl, hwn⟩; obtain rfl := hwn.symm)
    go_ret
    exact ⟨ret_int (by unfold rWord; rw [if_neg (by rw [HE.out]; exact he)]), rfl⟩
end Go.Proofs.Ytcphjfggjjonpaa
