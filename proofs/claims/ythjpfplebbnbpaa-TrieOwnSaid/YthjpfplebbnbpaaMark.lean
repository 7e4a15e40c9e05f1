/- The walk of the law's mark: the text of a number. -/
import Derived.Test.YthjpfplebbnbpaaStr
import Derived.Laws.Runes
namespace Go.Proofs.Ythjpfplebbnbpaa
open Go.ChangeShapes Go.WideShapes Go.ChangeAt Go.RowKit
theorem enc_size (r : Int) (h0 : 0 ≤ r) (h1 : r < 128) : (Utf8.encode r).size = 1 := by
  have hv : Utf8.valid r = true := by
    unfold Utf8.valid
    simp
    omega
  have hc : r.toNat < 128 := by omega
  unfold Utf8.encode
  simp only [hv, if_true, hc]
  rfl
/-- The text of a number, behind another one. -/
def mkText : Nat → Nat → ByteArray → ByteArray
  | 0, _, s => s
  | f + 1, j, s => if j = 0 then s else mkText f (j / 10) (s ++ Utf8.encode (48 + (j : Int) % 10))
theorem mkText_size : ∀ (f j : Nat) (s : ByteArray), (mkText f j s).size ≤ s.size + f
  | 0, _, s => Nat.le_refl _
  | f + 1, j, s => by
    unfold mkText
    split
    · omega
    · have := mkText_size f (j / 10) (s ++ Utf8.encode (48 + (j : Int) % 10))
      rw [ByteArray.size_append, enc_size _ (by omega) (by omega)] at this
      omega
def markT (i : Nat) : ByteArray := mkText i i ⟨#[35]⟩
theorem markT_size (i : Nat) : (markT i).size ≤ i + 1 := by
  have := mkText_size i i ⟨#[35]⟩
  have e : (⟨#[35]⟩ : ByteArray).size = 1 := rfl
  unfold markT
  omega
set_option maxRecDepth 100000 in
theorem c_mark (i : Nat) (w : World) (hi : i ≤ 1000000) :
    Calls Try.prog 29 #[.int .i64 (i : Nat)] w fun e w' => e = .returned (.string (markT i)) ∧ w' = w := by
  go_enter Try.func29, Try.ntmps29
  go_wp2
  go_loopw [0, 3] (fun v0 v3 wj => wj = w ∧ ∃ (f j : Nat) (s : ByteArray), v0 = .int .i64 (j : Nat) ∧ v3 = .string s ∧ j ≤ f ∧ f ≤ i ∧ s.size + f ≤ i + 1 ∧ mkText f j s = markT i) (fun v0 _ _ => (intOf v0).toNat)
  case atStart => exact ⟨rfl, i, i, _, rfl, rfl, Nat.le_refl _, Nat.le_refl _, by show 1 + i ≤ i + 1; omega, rfl⟩
  case round =>
    obtain ⟨rfl, f, j, s, rfl, rfl, hj, hf, hs, hm⟩ := hrel
    have HM := Lib.hid hm
    clear hm
    by_cases hj0 : j = 0
    · subst hj0
      go_wp2
      go_returns
      exact ⟨congrArg (fun z => Ending.returned (.string z)) (by
        rw [← HM.out]
        cases f with
        | zero => rfl
        | succ f => unfold mkText; rw [if_pos rfl]), rfl⟩
    · obtain ⟨f, rfl⟩ : ∃ g, f = g + 1 := ⟨f - 1, by omega⟩
      have hxs : (Utf8.encode (48 + (j : Int) % 10)).size = 1 := enc_size _ (by omega) (by omega)
      obtain ⟨y, hy⟩ : ∃ y, s ++ Utf8.encode (48 + (j : Int) % 10) = y := ⟨_, rfl⟩
      have NX : Hid (mkText f (j / 10) y = markT i) := by
        show _ = _
        rw [← HM.out]
        conv => rhs; unfold mkText
        rw [if_neg hj0, hy]
      have SZ : Hid (y.size + f ≤ i + 1) := by
        show _ ≤ _
        rw [← hy, ByteArray.size_append]
        omega
      have ADD : Hid (s.size + (Utf8.encode (48 + (j : Int) % 10)).size ≤ 1000001 ∧ s ++ Utf8.encode (48 + (j : Int) % 10) = y) := ⟨by omega, hy⟩
      have h1 : (0 : Int) < (j : Int) := by omega
      clear hxs hs HM hy
      go_upto_region 4 with fail
      iterate 20 go_step
      have hadd : (Op.stringOp .add s (Utf8.encode (48 + (j : Int) % 10))).run Try.prog wr = .ok (.string y) wr := by rw [run_string_add_sum wr s _ (by have := ADD.out.1; omega), ADD.out.2]
      go_step
      clear hadd
      go_wp2
      go_roundw
      case rel =>
        exact ⟨trivial, f, j / 10, y, by go_num, rfl, by omega, by omega, SZ.out, NX.out⟩
      case measure => simp [intOf]; omega
end Go.Proofs.Ythjpfplebbnbpaa
