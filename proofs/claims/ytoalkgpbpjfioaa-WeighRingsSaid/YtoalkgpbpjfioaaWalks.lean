/- The contracts of the functions that the law WeighRings goes through: what each comes to, in any world. No conditions but those of each contract. -/
import Derived.Test.YtoalkgpbpjfioaaRows
import Derived.WalkKit
import Derived.ProofKit
import Derived.OpenShut
import Derived.WalkLawsBesides
import Derived.WalkSpells
import Derived.Outline
import Derived.Laws.EntriesVeiled
import Derived.Handy
import Derived.Deep.RegionWith
import Derived.Lib.Hide
namespace Go.Proofs.Ytoalkgpbpjfioaa.weighRings
open Go.ChangeShapes Go.WideShapes Go.ChangeAt Go.RowKit

theorem frombits (n : Nat) (w : World) : (callFunc 32 #[.int .u64 (n : Int)]).run Try.prog w = .ok (.value (.float .f64 n)) w := by
  rw [run_callFunc_extern Try.func32 (by kernel_rfl) (by kernel_rfl) (by kernel_rfl) (e := Extern.MathFloatBits.float64frombits) (by kernel_rfl)]; rfl
theorem tobits (n : Nat) (w : World) : (callFunc 34 #[.float .f64 n]).run Try.prog w = .ok (.value (.int .u64 (n : Int))) w := by
  rw [run_callFunc_extern Try.func34 (by kernel_rfl) (by kernel_rfl) (by kernel_rfl) (e := Extern.MathFloatBits.float64bits) (by kernel_rfl)]; rfl
theorem add64 (x y : Nat) (w : World) : (callFunc 19 #[.int .u64 (x : Int), .int .u64 (y : Int), .int .u64 0]).run Try.prog w = .ok (.value (.tuple #[.int .u64 (((x + y) % 18446744073709551616 : Nat) : Int), .int .u64 (((x + y) / 18446744073709551616 : Nat) : Int)])) w := by
  rw [run_callFunc_extern Try.func19 (by kernel_rfl) (by kernel_rfl) (by kernel_rfl) (e := add64Entry) (by kernel_rfl), run_add64 (x : Int) (y : Int) 0 (by omega) (by omega) (by omega) (by omega)]
  simp only [Result.andThen, Int.add_zero]
  congr 5

def tr (x : Int) : Bool := bits .and .u64 x 1 == 1
theorem c8 (x : Int) (w : World) : Calls Try.prog 8 #[.int .u64 x] w fun e w' => e = .returned (.bool (tr x)) ∧ w = w' := by
    go_enter Try.func8, Try.ntmps8
    go_wp2
    go_ret
    exact ⟨rfl, rfl⟩
theorem c12 (n : Nat) (w : World) : Calls Try.prog 12 #[.int .u64 n] w fun e w' => e = .returned (.float .f64 n) ∧ w = w' := by
    have h := frombits n
    go_enter Try.func12, Try.ntmps12
    go_wp2
    go_ret
    exact ⟨rfl, rfl⟩
theorem c29 (n : Nat) (w : World) : Calls Try.prog 29 #[.int .u64 n] w fun e w' => e = .returned (.float .f64 n) ∧ w = w' := by
    have h := frombits n
    go_enter Try.func29, Try.ntmps29
    go_wp2
    go_ret
    exact ⟨rfl, rfl⟩
theorem c30 (n : Nat) (w : World) : Calls Try.prog 30 #[.float .f64 n] w fun e w' => e = .returned (.int .u64 n) ∧ w = w' := by
    have h := tobits n
    go_enter Try.func30, Try.ntmps30
    go_wp2
    go_ret
    exact ⟨rfl, rfl⟩
theorem c24 (w : World) : Calls Try.prog 24 #[.int .i64 1] w fun e w' => e = .returned (.float .f64 9218868437227405312) ∧ w = w' := by
    have h : ∀ w, (callFunc 32 #[.int .u64 9218868437227405312]).run Try.prog w = .ok (.value (.float .f64 9218868437227405312)) w := fun w => frombits 9218868437227405312 w
    go_enter Try.func24, Try.ntmps24
    go_wp2
    go_ret
    exact ⟨rfl, rfl⟩
theorem c13 (w : World) : Calls Try.prog 13 #[.float .f64 9218868437227405312, .int .i64 1] w fun e w' => e = .returned (.bool true) ∧ w = w' := by
    have h : (FloatKind.f64.format.order 9218868437227405312 9218868437227405311 == some Ordering.gt) = true := by decide +kernel
    go_enter Try.func13, Try.ntmps13
    go_wp2
    go_ret
    exact ⟨rfl, rfl⟩

theorem runStoreFloat (P : Program) (w : World) (a : Addr) (m : Mode) (k : FloatKind) (n : Nat) : (store a (.float k n) m).run P w = stored P w a (.float k n) m := run_store P w a _ m rfl
attribute [local go_sem] runStoreFloat
theorem c4 (w : World) : Calls Try.prog 4 #[] w fun e w' => e = .returned (.agg #[.bool false, .bool true, .func (.func 15) #[] #[], .func (.func 16) #[] #[], .func (.func 17) #[] #[]]) ∧ w.alloc (.cells #[.bool false, .bool true, .func (.func 15) #[] #[], .func (.func 16) #[] #[], .func (.func 17) #[] #[]] 25) = w' := by
    go_enter Try.func4, Try.ntmps4
    go_wp2
    go_returns
    exact ⟨rfl, rfl⟩
theorem c5 (w : World) : Calls Try.prog 5 #[] w fun e w' => e = .returned (.agg #[.int .u64 0, .int .u64 1, .func (.func 18) #[] #[], .func (.func 20) #[] #[], .func (.func 22) #[] #[]]) ∧ w.alloc (.cells #[.int .u64 0, .int .u64 1, .func (.func 18) #[] #[], .func (.func 20) #[] #[], .func (.func 22) #[] #[]] 30) = w' := by
    go_enter Try.func5, Try.ntmps5
    go_wp2
    go_returns
    exact ⟨rfl, rfl⟩
theorem c6 (w : World) : Calls Try.prog 6 #[] w fun e w' => e = .returned (.agg #[.float .f64 9218868437227405312, .float .f64 0, .func (.func 23) #[] #[], .func (.func 25) #[] #[], .func (.func 26) #[] #[]]) ∧ w.alloc (.cells #[.float .f64 9218868437227405312, .float .f64 0, .func (.func 23) #[] #[], .func (.func 25) #[] #[], .func (.func 26) #[] #[]] 36) = w' := by
    go_enter Try.func6, Try.ntmps6
    go_wp2_with (go_at_call 24; refine (c24 _).mono ?_; rintro e w' ⟨rfl, rfl⟩)
    go_returns
    exact ⟨rfl, rfl⟩
theorem c7 (w : World) : Calls Try.prog 7 #[] w fun e w' => e = .returned (.agg #[.float .f64 0, .float .f64 4607182418800017408, .func (.func 27) #[] #[], .func (.func 28) #[] #[], .func (.func 26) #[] #[]]) ∧ w.alloc (.cells #[.float .f64 0, .float .f64 4607182418800017408, .func (.func 27) #[] #[], .func (.func 28) #[] #[], .func (.func 26) #[] #[]] 36) = w' := by
    go_enter Try.func7, Try.ntmps7
    go_wp2
    go_returns
    exact ⟨rfl, rfl⟩
theorem c15 (x y : Bool) (w : World) : Calls Try.prog 15 #[.bool x, .bool y] w fun e w' => e = .returned (.bool (x || y)) ∧ w = w' := by
  cases x
  all_goals
    go_enter Try.func15, Try.ntmps15
    go_wp2
    go_ret
    exact ⟨rfl, rfl⟩
theorem c16 (x y : Bool) (w : World) : Calls Try.prog 16 #[.bool x, .bool y] w fun e w' => e = .returned (.bool (x && y)) ∧ w = w' := by
  cases x
  all_goals
    go_enter Try.func16, Try.ntmps16
    go_wp2
    go_ret
    exact ⟨rfl, rfl⟩
theorem c17 (x y : Bool) (w : World) : Calls Try.prog 17 #[.bool x, .bool y] w fun e w' => e = .returned (.bool (x == y)) ∧ w = w' := by
    go_enter Try.func17, Try.ntmps17
    go_wp2
    go_ret
    exact ⟨rfl, rfl⟩
theorem c22 (x y : Int) (w : World) : Calls Try.prog 22 #[.int .u64 x, .int .u64 y] w fun e w' => e = .returned (.bool (x == y)) ∧ w = w' := by
    go_enter Try.func22, Try.ntmps22
    go_wp2
    go_ret
    exact ⟨rfl, rfl⟩
def satAdd (x y : Nat) : Nat := if x + y < 18446744073709551616 then x + y else 18446744073709551615
def satMul (x y : Nat) : Nat := if x * y < 18446744073709551616 then x * y else 18446744073709551615
theorem c18 (x y : Nat) (hx : x < 18446744073709551616) (hy : y < 18446744073709551616) (w : World) : Calls Try.prog 18 #[.int .u64 x, .int .u64 y] w fun e w' => e = .returned (.int .u64 (satAdd x y : Nat)) ∧ w = w' := by
  have h := add64 x y
  by_cases hs : x + y < 18446744073709551616
  · have e1 : (((x + y) / 18446744073709551616 : Nat) : Int) = 0 := by omega
    have e2 : (((x + y) % 18446744073709551616 : Nat) : Int) = (satAdd x y : Nat) := by unfold satAdd; rw [if_pos hs]; omega
    rw [e1, e2] at h
    clear e1 e2
    go_enter Try.func18, Try.ntmps18
    go_wp2
    go_ret
    exact ⟨rfl, rfl⟩
  · have e1 : (((x + y) / 18446744073709551616 : Nat) : Int) = 1 := by omega
    have e2 : (18446744073709551615 : Int) = (satAdd x y : Nat) := by unfold satAdd; rw [if_neg hs]; rfl
    rw [e1] at h
    clear e1
    have E2 := Lib.hid e2
    clear e2
    go_enter Try.func18, Try.ntmps18
    go_wp2
    go_ret
    exact ⟨congrArg (fun a => Ending.returned (.int .u64 a)) E2.out, rfl⟩

def ford (x y : Nat) : Option Ordering := FloatKind.f64.format.order x y
def fsame (x y : Nat) : Bool := (ford x y == some .eq) || (ford x x != some .eq) && (ford y y != some .eq)
def fmin (x y : Nat) : Nat := if ford y x == some .lt then y else x
def fmax (x y : Nat) : Nat := if ford y x == some .gt then y else x
def isnan (x : Nat) : Bool := ford x x != some .eq
theorem c31 (x : Nat) (w : World) : Calls Try.prog 31 #[.float .f64 x] w fun e w' => e = .returned (.bool (isnan x)) ∧ w = w' := by
    go_enter Try.func31, Try.ntmps31
    go_wp2
    go_ret
    exact ⟨rfl, rfl⟩
theorem c26 (x y : Nat) (w : World) : Calls Try.prog 26 #[.float .f64 x, .float .f64 y] w fun e w' => e = .returned (.bool (fsame x y)) ∧ w = w' := by
  unfold fsame ford
  cases h1 : (FloatKind.f64.format.order x y == some .eq) <;> cases h2 : (FloatKind.f64.format.order x x != some .eq) 
  all_goals
    go_enter Try.func26, Try.ntmps26
    go_wp2
    go_ret
    exact ⟨rfl, rfl⟩
theorem c23 (x y : Nat) (w : World) : Calls Try.prog 23 #[.float .f64 x, .float .f64 y] w fun e w' => e = .returned (.float .f64 (fmin x y)) ∧ w = w' := by
  unfold fmin ford
  cases h1 : (FloatKind.f64.format.order y x == some .lt)
  all_goals
    go_enter Try.func23, Try.ntmps23
    go_wp2
    go_ret
    exact ⟨rfl, rfl⟩
theorem c27 (x y : Nat) (w : World) : Calls Try.prog 27 #[.float .f64 x, .float .f64 y] w fun e w' => e = .returned (.float .f64 (fmax x y)) ∧ w = w' := by
  unfold fmax ford
  cases h1 : (FloatKind.f64.format.order y x == some .gt)
  all_goals
    go_enter Try.func27, Try.ntmps27
    go_wp2
    go_ret
    exact ⟨rfl, rfl⟩
/-- What an operation of floats may come to. -/
def FRes (o : Option Nat) (r : Nat) (w w' : World) : Prop := (o = some r ∧ w = w') ∨ (o = none ∧ isnan r = true ∧ w.drew = w')
def AddPost (x y : Nat) (w : World) (e : Ending) (w' : World) : Prop := ∃ r, e = .returned (.float .f64 r) ∧ FRes (FloatKind.f64.format.add x y) r w w'

theorem read_nan (n : Nat) (h1 : 9218868437227405312 < n % 9223372036854775808) : (FloatKind.f64.format.read n).isNaN = true := by
  have hs : Ieee.Format.signWeight FloatKind.f64.format = 9223372036854775808 := by decide +kernel
  have hb : Ieee.Format.binade FloatKind.f64.format = 4503599627370496 := by decide +kernel
  have hi : Ieee.Format.infRung FloatKind.f64.format = 9218868437227405312 := by decide +kernel
  unfold Ieee.Format.read
  simp only [hs, hb, hi]
  rw [if_neg (by omega), if_neg (by omega), if_neg (by omega)]
  rfl
theorem nan_cut (x y t : Nat) : isnan ((Question.nanBits .f64 x y).cut t) = true := by
  have e : (FloatKind.f64.format.read ((Question.nanBits .f64 x y).cut t)).isNaN = true := by
    apply read_nan
    simp only [Question.cut]
    have h1 := Nat.mod_lt t (show 0 < 2 by omega)
    have h2 := Nat.mod_lt (t / 2) (show 0 < 4503599627370495 by omega)
    show 9218868437227405312 < (t % 2 * 9223372036854775808 + 9218868437227405312 + 1 + t / 2 % 4503599627370495) % 9223372036854775808
    generalize t / 2 % 4503599627370495 = q at *
    generalize t % 2 = p at *
    have : p = 0 ∨ p = 1 := by omega
    rcases this with rfl | rfl <;> omega
  unfold isnan ford
  have : FloatKind.f64.format.order ((Question.nanBits .f64 x y).cut t) ((Question.nanBits .f64 x y).cut t) = none := by
    unfold Ieee.Format.order
    revert e
    cases (FloatKind.f64.format.read ((Question.nanBits .f64 x y).cut t)) <;> simp [Ieee.Datum.isNaN, Ieee.Datum.order]
  rw [this]; rfl
theorem run_add_some (x y r : Nat) (h : FloatKind.f64.format.add x y = some r) (w : World) : (binOp .add 32 (.float .f64 x) (.float .f64 y)).run Try.prog w = .ok (.float .f64 r) w := by
  simp [binOp, Op.floatArith, h]
theorem run_add_none (x y : Nat) (h : FloatKind.f64.format.add x y = none) (w : World) : (binOp .add 32 (.float .f64 x) (.float .f64 y)).run Try.prog w = .ok (.float .f64 ((Question.nanBits .f64 x y).cut (w.tape w.drawn (.nanBits .f64 x y)))) w.drew := by
  simp [binOp, Op.floatArith, h, choose, Sem.run, Question.forced]
theorem run_mul_some (x y r : Nat) (h : FloatKind.f64.format.mul x y = some r) (w : World) : (binOp .mul 32 (.float .f64 x) (.float .f64 y)).run Try.prog w = .ok (.float .f64 r) w := by
  simp [binOp, Op.floatArith, h]
theorem run_mul_none (x y : Nat) (h : FloatKind.f64.format.mul x y = none) (w : World) : (binOp .mul 32 (.float .f64 x) (.float .f64 y)).run Try.prog w = .ok (.float .f64 ((Question.nanBits .f64 x y).cut (w.tape w.drawn (.nanBits .f64 x y)))) w.drew := by
  simp [binOp, Op.floatArith, h, choose, Sem.run, Question.forced]

theorem c25 (x y : Nat) (w : World) : Calls Try.prog 25 #[.float .f64 x, .float .f64 y] w (AddPost x y w) := by
  cases h : FloatKind.f64.format.add x y
  · have hr := run_add_none x y h w
    have hn := Lib.hid (nan_cut x y (w.tape w.drawn (.nanBits .f64 x y)))
    have hh := Lib.hid h
    clear h
    go_enter Try.func25, Try.ntmps25
    go_wp2
    go_ret
    exact ⟨_, rfl, .inr ⟨hh.out, hn.out, rfl⟩⟩
  · rename_i r
    have hr := run_add_some x y r h w
    have hh := Lib.hid h
    clear h
    go_enter Try.func25, Try.ntmps25
    go_wp2
    go_ret
    exact ⟨_, rfl, .inl ⟨hh.out, rfl⟩⟩
def MulPost (x y : Nat) (w : World) (e : Ending) (w' : World) : Prop := ∃ r, e = .returned (.float .f64 r) ∧ FRes (FloatKind.f64.format.mul x y) r w w'
theorem c28 (x y : Nat) (w : World) : Calls Try.prog 28 #[.float .f64 x, .float .f64 y] w (MulPost x y w) := by
  cases h : FloatKind.f64.format.mul x y
  · have hr := run_mul_none x y h w
    have hn := Lib.hid (nan_cut x y (w.tape w.drawn (.nanBits .f64 x y)))
    have hh := Lib.hid h
    clear h
    go_enter Try.func28, Try.ntmps28
    go_wp2
    go_ret
    exact ⟨_, rfl, .inr ⟨hh.out, hn.out, rfl⟩⟩
  · rename_i r
    have hr := run_mul_some x y r h w
    have hh := Lib.hid h
    clear h
    go_enter Try.func28, Try.ntmps28
    go_wp2
    go_ret
    exact ⟨_, rfl, .inl ⟨hh.out, rfl⟩⟩
theorem c14_same (x : Nat) (w : World) : Calls Try.prog 14 #[.float .f64 x, .float .f64 x] w fun e w' => e = .returned (.bool true) ∧ w = w' := by
    have h := tobits x
    go_enter Try.func14, Try.ntmps14
    go_wp2
    go_ret
    exact ⟨rfl, rfl⟩
theorem c14_nan (x y : Nat) (hx : isnan x = true) (hy : isnan y = true) (w : World) : Calls Try.prog 14 #[.float .f64 x, .float .f64 y] w fun e w' => e = .returned (.bool true) ∧ w = w' := by
    have h := tobits x
    have h' := tobits y
    unfold isnan ford at hx hy
    cases h3 : ((x : Int) == (y : Int))
    all_goals
      go_enter Try.func14, Try.ntmps14
      go_wp2
      go_ret
      exact ⟨rfl, rfl⟩
theorem c9_0 (x y : Int) (w : World) : Calls Try.prog 9 #[.int .i64 0, .int .u64 x, .int .u64 y] w fun e w' => e = .returned (.int .u64 (bits .or .u64 x y)) ∧ w = w' := by
    go_enter Try.func9, Try.ntmps9
    go_wp2
    go_ret
    exact ⟨rfl, rfl⟩
theorem c10_0 (x y : Int) (w : World) : Calls Try.prog 10 #[.int .i64 0, .int .u64 x, .int .u64 y] w fun e w' => e = .returned (.int .u64 (bits .and .u64 x y)) ∧ w = w' := by
    go_enter Try.func10, Try.ntmps10
    go_wp2
    go_ret
    exact ⟨rfl, rfl⟩


theorem c9_2 (x y : Nat) (w : World) : Calls Try.prog 9 #[.int .i64 2, .int .u64 x, .int .u64 y] w fun e w' => e = .returned (.int .u64 (fmin x y : Nat)) ∧ w = w' := by
  unfold fmin ford
  cases h1 : (FloatKind.f64.format.order y x == some .lt)
  all_goals
    go_enter Try.func9, Try.ntmps9
    go_wp2_with (go_at_call 29; refine (c29 _ _).mono ?_; rintro e w' ⟨rfl, rfl⟩)
    go_ret
    exact ⟨rfl, rfl⟩
theorem c9_3 (x y : Nat) (w : World) : Calls Try.prog 9 #[.int .i64 3, .int .u64 x, .int .u64 y] w fun e w' => e = .returned (.int .u64 (fmax x y : Nat)) ∧ w = w' := by
  unfold fmax ford
  cases h1 : (FloatKind.f64.format.order y x == some .gt)
  all_goals
    go_enter Try.func9, Try.ntmps9
    go_wp2_with (go_at_call 29; refine (c29 _ _).mono ?_; rintro e w' ⟨rfl, rfl⟩)
    go_ret
    exact ⟨rfl, rfl⟩
theorem c11_1 (x y : Int) (w : World) : Calls Try.prog 11 #[.int .i64 1, .int .u64 x, .int .u64 y] w fun e w' => e = .returned (.bool (x == y)) ∧ w = w' := by
    go_enter Try.func11, Try.ntmps11
    go_wp2
    go_ret
    exact ⟨rfl, rfl⟩
theorem c11_2 (x y : Nat) (w : World) : Calls Try.prog 11 #[.int .i64 2, .int .u64 x, .int .u64 y] w fun e w' => e = .returned (.bool (fsame x y)) ∧ w = w' := by
  have hn : fsame x y = ((FloatKind.f64.format.order x y == some .eq) || isnan x && isnan y) := rfl
  rw [hn]
  clear hn
  cases h1 : (FloatKind.f64.format.order x y == some .eq) <;> cases h2 : isnan x
  all_goals
    go_enter Try.func11, Try.ntmps11
    go_wp2_with (first | (go_at_call 29; refine (c29 _ _).mono ?_; rintro e w' ⟨rfl, rfl⟩) | (go_at_call 31; refine (c31 _ _).mono ?_; rintro e w' ⟨rfl, rfl⟩))
    go_ret
    exact ⟨rfl, rfl⟩
theorem c11_3 (x y : Nat) (w : World) : Calls Try.prog 11 #[.int .i64 3, .int .u64 x, .int .u64 y] w fun e w' => e = .returned (.bool (fsame x y)) ∧ w = w' := by
  have hn : fsame x y = ((FloatKind.f64.format.order x y == some .eq) || isnan x && isnan y) := rfl
  rw [hn]
  clear hn
  cases h1 : (FloatKind.f64.format.order x y == some .eq) <;> cases h2 : isnan x
  all_goals
    go_enter Try.func11, Try.ntmps11
    go_wp2_with (first | (go_at_call 29; refine (c29 _ _).mono ?_; rintro e w' ⟨rfl, rfl⟩) | (go_at_call 31; refine (c31 _ _).mono ?_; rintro e w' ⟨rfl, rfl⟩))
    go_ret
    exact ⟨rfl, rfl⟩
def AddPostI (x y : Nat) (w : World) (e : Ending) (w' : World) : Prop := ∃ r : Nat, e = .returned (.int .u64 r) ∧ FRes (FloatKind.f64.format.add x y) r w w'
def MulPostI (x y : Nat) (w : World) (e : Ending) (w' : World) : Prop := ∃ r : Nat, e = .returned (.int .u64 r) ∧ FRes (FloatKind.f64.format.mul x y) r w w'
theorem c10_2 (x y : Nat) (w : World) : Calls Try.prog 10 #[.int .i64 2, .int .u64 x, .int .u64 y] w (AddPostI x y w) := by
  cases h : FloatKind.f64.format.add x y
  · have hr := run_add_none x y h w
    have hn := Lib.hid (nan_cut x y (w.tape w.drawn (.nanBits .f64 x y)))
    have hh := Lib.hid h
    clear h
    go_enter Try.func10, Try.ntmps10
    go_wp2_with (first | (go_at_call 29; refine (c29 _ _).mono ?_; rintro e w' ⟨rfl, rfl⟩) | (go_at_call 30; refine (c30 _ _).mono ?_; rintro e w' ⟨rfl, rfl⟩))
    go_ret
    exact ⟨_, rfl, .inr ⟨hh.out, hn.out, rfl⟩⟩
  · rename_i r
    have hr := run_add_some x y r h w
    have hh := Lib.hid h
    clear h
    go_enter Try.func10, Try.ntmps10
    go_wp2_with (first | (go_at_call 29; refine (c29 _ _).mono ?_; rintro e w' ⟨rfl, rfl⟩) | (go_at_call 30; refine (c30 _ _).mono ?_; rintro e w' ⟨rfl, rfl⟩))
    go_ret
    exact ⟨_, rfl, .inl ⟨hh.out, rfl⟩⟩
theorem c10_3 (x y : Nat) (w : World) : Calls Try.prog 10 #[.int .i64 3, .int .u64 x, .int .u64 y] w (MulPostI x y w) := by
  cases h : FloatKind.f64.format.mul x y
  · have hr := run_mul_none x y h w
    have hn := Lib.hid (nan_cut x y (w.tape w.drawn (.nanBits .f64 x y)))
    have hh := Lib.hid h
    clear h
    go_enter Try.func10, Try.ntmps10
    go_wp2_with (first | (go_at_call 29; refine (c29 _ _).mono ?_; rintro e w' ⟨rfl, rfl⟩) | (go_at_call 30; refine (c30 _ _).mono ?_; rintro e w' ⟨rfl, rfl⟩))
    go_ret
    exact ⟨_, rfl, .inr ⟨hh.out, hn.out, rfl⟩⟩
  · rename_i r
    have hr := run_mul_some x y r h w
    have hh := Lib.hid h
    clear h
    go_enter Try.func10, Try.ntmps10
    go_wp2_with (first | (go_at_call 29; refine (c29 _ _).mono ?_; rintro e w' ⟨rfl, rfl⟩) | (go_at_call 30; refine (c30 _ _).mono ?_; rintro e w' ⟨rfl, rfl⟩))
    go_ret
    exact ⟨_, rfl, .inl ⟨hh.out, rfl⟩⟩
theorem c9_1 (x y : Nat) (hx : x < 18446744073709551616) (hy : y < 18446744073709551616) (w : World) : Calls Try.prog 9 #[.int .i64 1, .int .u64 x, .int .u64 y] w fun e w' => e = .returned (.int .u64 (satAdd x y : Nat)) ∧ w = w' := by
  by_cases hs : x + y < 18446744073709551616
  · have e2 : (x + y : Int) = (satAdd x y : Nat) := by unfold satAdd; rw [if_pos hs]; omega
    have E2 := Lib.hid e2
    clear e2
    have hd : decide ((x : Int) + y < x) = false := by simp; omega
    go_enter Try.func9, Try.ntmps9
    go_wp2
    go_ret
    exact ⟨congrArg (fun a => Ending.returned (.int .u64 a)) E2.out, rfl⟩
  · have e2 : (18446744073709551615 : Int) = (satAdd x y : Nat) := by unfold satAdd; rw [if_neg hs]; rfl
    have E2 := Lib.hid e2
    clear e2
    have hd : decide (IntKind.u64.wrap ((x : Int) + y) < x) = true := by simp [IntKind.wrap_u64]; omega
    go_enter Try.func9, Try.ntmps9
    go_wp2
    go_ret
    exact ⟨congrArg (fun a => Ending.returned (.int .u64 a)) E2.out, rfl⟩
theorem mul_over (x y : Nat) (hx : 0 < x) : 18446744073709551615 / x < y ↔ 18446744073709551616 ≤ x * y := by
  rw [Nat.div_lt_iff_lt_mul hx, Nat.mul_comm]; omega
theorem div_cast (x : Nat) : ((18446744073709551615 / x : Nat) : Int) = 18446744073709551615 / (x : Int) := by
  rw [Int.natCast_ediv]; rfl
theorem c10_1 (x y : Nat) (w : World) : Calls Try.prog 10 #[.int .i64 1, .int .u64 x, .int .u64 y] w fun e w' => e = .returned (.int .u64 (satMul x y : Nat)) ∧ w = w' := by
  by_cases h0 : x = 0
  · subst h0
    go_enter Try.func10, Try.ntmps10
    go_wp2
    go_ret
    exact ⟨by simp [satMul], rfl⟩
  · have h1 : ((x : Int) == 0) = false := by simp; omega
    have h1' : ((x : Int) != 0) = true := by simp; omega
    have ho := mul_over x y (by omega)
    have hc := div_cast x
    by_cases hs : x * y < 18446744073709551616
    · have e2 : IntKind.u64.wrap ((x : Int) * y) = (satMul x y : Nat) := by unfold satMul; rw [if_pos hs, IntKind.wrap_u64]; omega
      have E2 := Lib.hid e2
      clear e2
      have hd : decide ((18446744073709551615 : Int) / x < y) = false := by rw [← hc]; simp; omega
      clear ho hs hc
      go_enter Try.func10, Try.ntmps10
      go_wp2
      go_ret
      exact ⟨congrArg (fun a => Ending.returned (.int .u64 a)) E2.out, rfl⟩
    · have e2 : (18446744073709551615 : Int) = (satMul x y : Nat) := by unfold satMul; rw [if_neg hs]; rfl
      have E2 := Lib.hid e2
      clear e2
      have hd : decide ((18446744073709551615 : Int) / x < y) = true := by rw [← hc]; simp; omega
      clear ho hs hc
      go_enter Try.func10, Try.ntmps10
      go_wp2
      go_ret
      exact ⟨congrArg (fun a => Ending.returned (.int .u64 a)) E2.out, rfl⟩
theorem mul_hi (x y : Int) (hx0 : 0 ≤ x) (hx : x < 18446744073709551616) (hy0 : 0 ≤ y) (hy : y < 18446744073709551616) :
    IntKind.u64.wrap (IntKind.u64.wrap (IntKind.u64.wrap (x / 4294967296 * (y / 4294967296)) +
      IntKind.u64.wrap (IntKind.u64.wrap (x / 4294967296 * bits BinOp.and IntKind.u64 y 4294967295) + IntKind.u64.wrap (bits BinOp.and IntKind.u64 x 4294967295 * bits BinOp.and IntKind.u64 y 4294967295) / 4294967296) / 4294967296) +
      IntKind.u64.wrap (bits BinOp.and IntKind.u64 (IntKind.u64.wrap (IntKind.u64.wrap (x / 4294967296 * bits BinOp.and IntKind.u64 y 4294967295) + IntKind.u64.wrap (bits BinOp.and IntKind.u64 x 4294967295 * bits BinOp.and IntKind.u64 y 4294967295) / 4294967296)) 4294967295 +
        IntKind.u64.wrap (bits BinOp.and IntKind.u64 x 4294967295 * (y / 4294967296))) / 4294967296) = x * y / 18446744073709551616 := by
  rw [← mul64_arith x y hx0 hx hy0 hy, and_low32 x hx0 hx, and_low32 y hy0 hy, and_low32 _ (by rw [IntKind.wrap_u64]; omega) (by rw [IntKind.wrap_u64]; omega)]
  simp only [IntKind.wrap_u64]
theorem c21 (x y : Nat) (hx : x < 18446744073709551616) (hy : y < 18446744073709551616) (w : World) :
    Calls Try.prog 21 #[.int .u64 x, .int .u64 y] w fun e w' => e = .returned (.tuple #[.int .u64 ((x * y / 18446744073709551616 : Nat) : Int), .int .u64 ((x * y % 18446744073709551616 : Nat) : Int)]) ∧ w = w' := by
  have M := Lib.hid (mul_hi x y (by omega) (by omega) (by omega) (by omega))
  have e1 : ((x * y / 18446744073709551616 : Nat) : Int) = (x : Int) * y / 18446744073709551616 := by omega
  have e2 : ((x * y % 18446744073709551616 : Nat) : Int) = IntKind.u64.wrap ((x : Int) * y) := by rw [IntKind.wrap_u64]; omega
  have E1 := Lib.hid e1
  have E2 := Lib.hid e2
  clear e1 e2
  go_enter Try.func21, Try.ntmps21
  go_wp2
  go_ret2
  refine ⟨?_, rfl⟩
  rw [E1.out, E2.out, ← M.out]
  rfl
theorem c20 (x y : Nat) (hx : x < 18446744073709551616) (hy : y < 18446744073709551616) (w : World) : Calls Try.prog 20 #[.int .u64 x, .int .u64 y] w fun e w' => e = .returned (.int .u64 (satMul x y : Nat)) ∧ w = w' := by
  have H := Lib.hid (c21 x y hx hy)
  by_cases hs : x * y < 18446744073709551616
  · have e1 : x * y / 18446744073709551616 = 0 := by omega
    have e2 : ((x * y % 18446744073709551616 : Nat) : Int) = (satMul x y : Nat) := by unfold satMul; rw [if_pos hs]; omega
    have H2 : Hid (∀ w, Calls Try.prog 21 #[.int .u64 x, .int .u64 y] w fun e w' => e = .returned (.tuple #[.int .u64 0, .int .u64 (satMul x y : Nat)]) ∧ w = w') := by
      have h := H.out; rw [e1, e2] at h; exact h
    clear H e1 e2 hs
    go_enter Try.func20, Try.ntmps20
    go_wp2_with (go_at_call 21; refine (H2.out _).mono ?_; rintro e w' ⟨rfl, rfl⟩)
    go_ret
    exact ⟨rfl, rfl⟩
  · have e2 : (18446744073709551615 : Int) = (satMul x y : Nat) := by unfold satMul; rw [if_neg hs]; rfl
    have E2 := Lib.hid e2
    have h1 : (((x * y / 18446744073709551616 : Nat) : Int) == 0) = false := by simp; omega
    obtain ⟨a, ha⟩ : ∃ a, a = ((x * y / 18446744073709551616 : Nat) : Int) := ⟨_, rfl⟩
    obtain ⟨b, hb⟩ : ∃ b, b = ((x * y % 18446744073709551616 : Nat) : Int) := ⟨_, rfl⟩
    rw [← ha] at h1
    have H2 : Hid (∀ w, Calls Try.prog 21 #[.int .u64 x, .int .u64 y] w fun e w' => e = .returned (.tuple #[.int .u64 a, .int .u64 b]) ∧ w = w') := by
      have h := H.out; rw [← ha, ← hb] at h; exact h
    clear H e2 hs ha hb
    go_enter Try.func20, Try.ntmps20
    go_wp2_with (go_at_call 21; refine (H2.out _).mono ?_; rintro e w' ⟨rfl, rfl⟩)
    go_ret
    exact ⟨congrArg (fun a => Ending.returned (.int .u64 a)) E2.out, rfl⟩
end Go.Proofs.Ytoalkgpbpjfioaa.weighRings
