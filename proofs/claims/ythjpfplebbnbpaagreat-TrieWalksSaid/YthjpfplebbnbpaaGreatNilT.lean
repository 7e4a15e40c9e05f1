/- Tries that are nil: every call's contract; the iterator of Each. -/
import Derived.Test.YthjpfplebbnbpaaGreatWaysT
namespace Go.Proofs.YthjpfplebbnbpaaGreat
open Go.ChangeShapes Go.WideShapes Go.ChangeAt Go.RowKit Go.Shelf
attribute [local go_sem] Oper.semAt_some
theorem nilT_eq (w : World) : (binOp .eql 28 (.pointer none) (.pointer none)).run Tryz.prog w = .ok (.bool true) w := by kernel_rfl
theorem c_noneNil (w : World) : Calls Tryz.prog 26 #[.pointer none] w fun e w' => e = .returned (.bool true) ∧ w' = w := by
  have eqn := nilT_eq
  go_enter Tryz.func26, Tryz.ntmps26
  go_wp2
  go_returns
  exact ⟨rfl, rfl⟩
theorem c_depthNil (w : World) : Calls Tryz.prog 17 #[.pointer none] w fun e w' => e = .returned (.int .i64 0) ∧ w' = w := by
  go_enter Tryz.func17, Tryz.ntmps17
  go_wp2_with (go_at_call 26; (with_reducible refine (c_noneNil _).mono ?_); rintro e w1 ⟨rfl, hw1⟩; obtain rfl := hw1.symm)
  go_returns
  exact ⟨rfl, rfl⟩
theorem c_lenNil (w : World) : Calls Tryz.prog 16 #[.pointer none] w fun e w' => e = .returned (.int .i64 0) ∧ w' = w := by
  go_enter Tryz.func16, Tryz.ntmps16
  go_wp2_with (go_at_call 26; (with_reducible refine (c_noneNil _).mono ?_); rintro e w1 ⟨rfl, hw1⟩; obtain rfl := hw1.symm)
  go_returns
  exact ⟨rfl, rfl⟩
theorem c_walkNil (w : World) : Calls Tryz.prog 7 #[.pointer none] w fun e w' => e = .returned (.pointer none) ∧ w' = w := by
  go_enter Tryz.func7, Tryz.ntmps7
  go_wp2_with (go_at_call 26; (with_reducible refine (c_noneNil _).mono ?_); rintro e w1 ⟨rfl, hw1⟩; obtain rfl := hw1.symm)
  go_returns
  exact ⟨rfl, rfl⟩
set_option maxRecDepth 100000 in
theorem c_findNil (a : Option Addr) (n c : Nat) (w : World) (hn : n ≤ maxLen) : Calls Tryz.prog 45 #[.pointer none, .slice a n c] w fun e w' => e = .returned (.tuple #[.int .i64 0, .bool false]) ∧ w' = w := by
  have hn2 : n ≤ 9223372036854775807 := hn
  clear hn
  by_cases h0 : n = 0
  · subst h0
    go_enter Tryz.func45, Tryz.ntmps45
    go_wp2_with (first
      | (go_at_call 17; (with_reducible refine (c_depthNil _).mono ?_); rintro e w1 ⟨rfl, hw1⟩; obtain rfl := hw1.symm)
      | (go_at_call 16; (with_reducible refine (c_lenNil _).mono ?_); rintro e w1 ⟨rfl, hw1⟩; obtain rfl := hw1.symm))
    go_ret2
    exact ⟨rfl, rfl⟩
  · have h1 : 0 < n := Nat.pos_of_ne_zero h0
    have h2 : (0 : Int) < (n : Int) := by omega
    clear h0
    go_enter Tryz.func45, Tryz.ntmps45
    go_wp2_with (first
      | (go_at_call 17; (with_reducible refine (c_depthNil _).mono ?_); rintro e w1 ⟨rfl, hw1⟩; obtain rfl := hw1.symm)
      | (go_at_call 16; (with_reducible refine (c_lenNil _).mono ?_); rintro e w1 ⟨rfl, hw1⟩; obtain rfl := hw1.symm))
    go_ret2
    exact ⟨rfl, rfl⟩
theorem c_countTNil (a : Option Addr) (n c : Nat) (w : World) (hn : n ≤ maxLen) : Calls Tryz.prog 9 #[.pointer none, .slice a n c] w fun e w' => e = .returned (.int .i64 0) ∧ w' = w := by
  have F := Lib.hid (c_findNil a n c w hn)
  clear hn
  go_enter Tryz.func9, Tryz.ntmps9
  go_wp2_with (go_at_call 45; (with_reducible refine F.out.mono ?_); rintro e w1 ⟨rfl, hw1⟩; obtain rfl := hw1.symm)
  go_returns
  exact ⟨rfl, rfl⟩
theorem c_followTNil (a : Option Addr) (n c : Nat) (w : World) (hn : n ≤ maxLen) : Calls Tryz.prog 10 #[.pointer none, .slice a n c] w fun e w' => e = .returned (.slice none 0 0) ∧ w' = w := by
  have F := Lib.hid (c_findNil a n c w hn)
  clear hn
  go_enter Tryz.func10, Tryz.ntmps10
  go_wp2_with (go_at_call 45; (with_reducible refine F.out.mono ?_); rintro e w1 ⟨rfl, hw1⟩; obtain rfl := hw1.symm)
  go_returns
  exact ⟨rfl, rfl⟩
set_option maxRecDepth 100000 in
theorem eachOk_nil (w0 : World) : EachOk none w0 [] := by
  intro bx l w hb he X hX J Jx hJ hY h0
  have H0 := Lib.hid h0
  clear he hX hJ hY h0
  refine callsIn_of_wp Tryz.func65 rfl trivial ?_ rfl
  simp only [Tryz.ntmps65, List.size_toArray, List.length_cons, List.length_nil, Nat.reduceAdd, Nat.reduceSub, Array.replicate_succ, Array.replicate_zero, List.push_toArray, List.append_toArray, List.nil_append, List.cons_append]
  gi_wp2_with (first
    | (refine ⟨trivial, ?_⟩; gi_at_call 17; refine (callsIn_wide.2 (c_depthNil _)).mono ?_; rintro e w2 ⟨rfl, hw2⟩; obtain rfl := hw2.symm)
    | (refine ⟨trivial, ?_⟩; gi_at_call 16; refine (callsIn_wide.2 (c_lenNil _)).mono ?_; rintro e w2 ⟨rfl, hw2⟩; obtain rfl := hw2.symm))
  exact bodyPost_ret (results_none rfl _ _ _) rfl ⟨⟨_, rfl⟩, .inl H0.out⟩
theorem nil_eqC (w : World) : (binOp .eql 32 (.pointer none) (.pointer none)).run Tryz.prog w = .ok (.bool true) w := by kernel_rfl
theorem ptr_eqC (w : World) (b : Nat) : (binOp .eql 32 (.pointer (some ⟨b, 0, none⟩)) (.pointer none)).run Tryz.prog w = .ok (.bool false) w := by kernel_rfl
end Go.Proofs.YthjpfplebbnbpaaGreat
