/- slices.Index and slices.Contains at texts. -/
import Derived.Test.YtpgbenijjodoeaaGreatG2
namespace Go.Proofs.YtpgbenijjodoeaaGreat
open Go.ChangeShapes Go.WideShapes Go.ChangeAt Go.RowKit
/-- Where a text stands first; -1: nowhere. -/
def idxB (xs : List ByteArray) (t : ByteArray) : Int := match xs.findIdx? (fun y => decide (t = y)) with
  | some i => (i : Int)
  | none => -1
theorem idxB_at {xs : List ByteArray} {t : ByteArray} {k : Nat} (h1 : xs[k]? = some t) (h2 : ∀ j y, j < k → xs[j]? = some y → t ≠ y) : idxB xs t = (k : Int) := by
  unfold idxB
  have : xs.findIdx? (fun y => decide (t = y)) = some k := by
    rw [List.findIdx?_eq_some_iff_getElem]
    obtain ⟨hk, e⟩ := List.getElem?_eq_some_iff.1 h1
    refine ⟨hk, by simp [e], fun j hj => ?_⟩
    have := h2 j xs[j] hj (List.getElem?_eq_getElem (by omega))
    simpa using this
  rw [this]
theorem idxB_no {xs : List ByteArray} {t : ByteArray} (h : ∀ (j : Nat) (y : ByteArray), xs[j]? = some y → t ≠ y) : idxB xs t = -1 := by
  unfold idxB
  have : xs.findIdx? (fun y => decide (t = y)) = none := by
    rw [List.findIdx?_eq_none_iff]
    intro y hy
    obtain ⟨j, hj⟩ := List.mem_iff_getElem?.1 hy
    simpa using h j y hj
  rw [this]
theorem idxB_nonneg (xs : List ByteArray) (t : ByteArray) : 0 ≤ idxB xs t ↔ t ∈ xs := by
  by_cases hm : t ∈ xs
  · refine ⟨fun _ => hm, fun _ => ?_⟩
    unfold idxB
    cases h : xs.findIdx? (fun y => decide (t = y)) with
    | some i => exact Int.natCast_nonneg i
    | none =>
      rw [List.findIdx?_eq_none_iff] at h
      have := h t hm
      simp at this
  · have : idxB xs t = -1 := idxB_no fun j y hj e => hm (e ▸ List.mem_of_getElem? hj)
    rw [this]
    exact ⟨fun h => absurd h (by omega), fun h => absurd h hm⟩
set_option maxRecDepth 100000 in
theorem c_indexS (xs : List ByteArray) (t : ByteArray) (a : Option Addr) (n cap : Nat) (w : World) (h : StrsAt w a n xs) :
    Calls Tryz.prog 54 #[.slice a n cap, .string t] w fun e w' => e = .returned (.int .i64 (idxB xs t)) ∧ w' = w := by
  have H := Lib.hid h
  have hn : n ≤ 9223372036854775807 := h.1
  clear h
  go_enter Tryz.func54, Tryz.ntmps54
  go_wp2
  go_loopw [8] (fun iv wr => wr = w ∧ ∃ k : Nat, iv = .int .i64 (k : Nat) ∧ k ≤ n ∧ ∀ j y, j < k → xs[j]? = some y → t ≠ y) (fun iv _ => n - (intOf iv).toNat)
  case atStart => exact ⟨rfl, 0, rfl, Nat.zero_le _, fun j y h => absurd h (by omega)⟩
  case round =>
    obtain ⟨rfl, k, rfl, hkn, hall⟩ := hrel
    have HA := Lib.hid hall
    clear hall
    by_cases hk : k < n
    · obtain ⟨y, b, off, h1, rfl, h2⟩ := H.out.2.at hk
      rw [Nat.mul_one] at h2
      have h3 : wr.cell? ⟨b, off + k, none⟩ = some (.string y) := h2
      have HX := Lib.hid h1
      clear h1 h2
      by_cases he : t = y
      · subst he
        have hbe : (t.toList == t.toList) = true := by simp
        go_wp2
        go_returns
        exact ⟨by rw [idxB_at HX.out HA.out]; rfl, rfl⟩
      · have hbe : (t.toList == y.toList) = false := by rw [beq_bytes, decide_eq_false he]
        have HNE := Lib.hid he
        clear he
        go_wp2
        go_roundw
        case rel =>
          refine ⟨by first | trivial | rfl, k + 1, by simp, by omega, fun j z hj hz => ?_⟩
          rcases Nat.lt_or_ge j k with h | h
          · exact HA.out j z h hz
          · obtain rfl : j = k := by omega
            rw [HX.out] at hz
            cases hz
            exact HNE.out
        case measure => simp [intOf]; omega
    · obtain rfl : k = n := by omega
      go_wp2
      go_returns
      refine ⟨?_, rfl⟩
      rw [idxB_no fun j y hj => HA.out j y (by rw [← H.out.2.1]; exact (List.getElem?_eq_some_iff.1 hj).1) hj]
      rfl
set_option maxRecDepth 100000 in
theorem c_containsS (xs : List ByteArray) (t : ByteArray) (a : Option Addr) (n cap : Nat) (w : World) (h : StrsAt w a n xs) :
    Calls Tryz.prog 49 #[.slice a n cap, .string t] w fun e w' => e = .returned (.bool (decide (0 ≤ idxB xs t))) ∧ w' = w := by
  have I := Lib.hid (c_indexS xs t a n cap w h)
  clear h
  go_enter Tryz.func49, Tryz.ntmps49
  go_wp2_with (go_at_call 54; (with_reducible refine I.out.mono ?_); rintro e w1 ⟨rfl, hw1⟩; obtain rfl := hw1.symm)
  go_returns
  first | trivial | exact ⟨rfl, rfl⟩
end Go.Proofs.YtpgbenijjodoeaaGreat
