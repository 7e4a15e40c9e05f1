/- The walk of the law's lists: the same rows are the same. -/
import Derived.Test.YthjpfplebbnbpaaGreatFind
import Derived.StillTailTactics
namespace Go.Proofs.YthjpfplebbnbpaaGreat
open Go.ChangeShapes Go.WideShapes Go.ChangeAt Go.RowKit
set_option maxRecDepth 100000 in
theorem c_lists (rs : List (List ByteArray)) (aa : Option Addr) (n cap : Nat) (ab : Option Addr) (m cb : Nat) (w : World) (ha : ItemsAt w aa n rs) (hb : ItemsAt w ab m rs) :
    Calls Tryz.prog 15 #[.slice aa n cap, .slice ab m cb] w fun e w' => e = .returned (.bool true) ∧ Ext w w' := by
  have HA := Lib.hid ha
  have HB := Lib.hid hb
  obtain rfl : n = m := by
    have h1 := ha.2.1
    have h2 := hb.2.1
    omega
  have hn : n ≤ 9223372036854775807 := ha.1
  clear ha hb
  go_enter Tryz.func15, Tryz.ntmps15
  go_wp2
  go_loopw [5] (fun v5 wj => ∃ i : Nat, i ≤ n ∧ v5 = .int .i64 (i : Nat) ∧ Ext w wj) (fun v5 _ => n - (intOf v5).toNat)
  case atStart => exact ⟨0, Nat.zero_le _, rfl, Below.refl _ _⟩
  case round =>
    obtain ⟨i, hi, rfl, he⟩ := hrel
    have HE := Lib.hid he
    by_cases hlt : i < n
    · have hlti : (i : Int) < (n : Int) := by omega
      obtain ⟨r, b1, o1, hx, rfl, a5, n5, c5, g1, g2⟩ := (HA.out.keep he).2.at hlt
      obtain ⟨r', b2, o2, hy, rfl, a6, n6, c6, g3, g4⟩ := (HB.out.keep he).2.at hlt
      rw [hx] at hy
      cases hy
      have g1 : wr.cell? ⟨b1, o1 + i, none⟩ = some (.slice a5 n5 c5) := by simpa using g1
      have g3 : wr.cell? ⟨b2, o2 + i, none⟩ = some (.slice a6 n6 c6) := by simpa using g3
      have TX : Hid (Calls Tryz.prog 12 #[.slice a5 n5 c5, .slice a6 n6 c6] wr.drew fun e w' => e = .returned (.bool true) ∧ Ext wr w') := by
        have := c_texts r r a5 n5 c5 a6 n6 c6 wr.drew (StrsAt.keep (ext_drew (Below.refl _ _)) g2) (StrsAt.keep (ext_drew (Below.refl _ _)) g4)
        rw [decide_eq_true rfl] at this
        exact this.mono fun e w' ⟨h1, h2⟩ => ⟨h1, ext_trans (ext_drew (Below.refl _ _)) h2⟩
      clear hx g2 g4 he
      go_wp2
      go_still_tail 8, (by kernel_rfl)
      change wpList _ _ _ _ _ wr.drew
      go_wp2_with (go_at_call 12; (with_reducible refine TX.out.mono ?_); rintro e w2 ⟨rfl, E2⟩)
      go_roundw
      case rel => exact ⟨i + 1, by omega, by go_num, ext_trans HE.out E2⟩
      case measure => simp [intOf]; omega
    · obtain rfl : i = n := by omega
      have hge : ¬ (i : Int) < (i : Int) := by omega
      go_wp2
      go_returns
      exact ⟨rfl, he⟩
end Go.Proofs.YthjpfplebbnbpaaGreat
