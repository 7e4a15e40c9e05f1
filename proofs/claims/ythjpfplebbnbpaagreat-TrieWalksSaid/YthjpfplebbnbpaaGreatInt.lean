/- Lists of numbers in memory; the walks of slices.Index, slices.Contains at numbers. -/
import Derived.Test.YthjpfplebbnbpaaGreatRowV
namespace Go.Proofs.YthjpfplebbnbpaaGreat
open Go.ChangeShapes Go.WideShapes Go.ChangeAt Go.RowKit
def intAt (w : World) (b o : Nat) (x : Int) : Prop := w.cell? ⟨b, o, none⟩ = some (.int .i64 x)
def IntsAt (w : World) (a : Option Addr) (n : Nat) (xs : List Int) : Prop := n ≤ maxLen ∧ SliceAt intAt 1 w a n xs
theorem IntsAt.keep {W w : World} (hb : Ext W w) {a : Option Addr} {n : Nat} {xs : List Int} (h : IntsAt W a n xs) : IntsAt w a n xs := ⟨h.1, h.2.keep fun _ _ _ => YthjpfplebbnbpaaGreat.keep hb⟩
abbrev intV (x : Int) : Value := .int .i64 x
theorem own_ints {w : World} {base : Nat} {a : Option Addr} {n cap : Nat} {xs : List Int} (h : w.ownsRow base 3 1 (.slice a n cap) n (xs.map intV)) (hn : n ≤ maxLen) : IntsAt w a n xs := by
  have hl := h.1
  rw [List.length_map, Nat.mul_one] at hl
  refine ⟨hn, hl, fun i x hx => ?_⟩
  have hi := (List.getElem?_eq_some_iff.1 hx).1
  rcases h.2 with ⟨h1, h0⟩ | ⟨g, c', cur, hv, _⟩
  · omega
  · cases hv
    have := h.cells (g := g) rfl i (.int .i64 x) (by rw [List.getElem?_map, hx]; rfl)
    rw [Addr.add_lit] at this
    exact ⟨g, 0, rfl, by simpa [intAt] using this⟩
theorem IntsAt.take {w : World} {a : Option Addr} {n : Nat} {xs : List Int} (h : IntsAt w a n xs) {k : Nat} (hk : k ≤ n) : IntsAt w a k (xs.take k) := by
  refine ⟨Nat.le_trans hk h.1, by rw [List.length_take, h.2.1]; omega, fun i x hx => ?_⟩
  rw [List.getElem?_take] at hx
  split at hx
  · exact h.2.2 i x hx
  · cases hx
/-- Where a number is first. -/
def idxOf : List Int → Int → Nat → Int
  | [], _, _ => -1
  | y :: l, x, k => if x = y then (k : Int) else idxOf l x (k + 1)
theorem idxOf_mem (l : List Int) (x : Int) (k : Nat) : decide (0 ≤ idxOf l x k) = decide (x ∈ l) := by
  induction l generalizing k with
  | nil => rfl
  | cons y l ih =>
    rw [idxOf]
    by_cases h : x = y
    · rw [if_pos h]
      simp [h]
    · rw [if_neg h, ih]
      simp [h]
theorem c_index (xs : List Int) (x : Int) (a : Option Addr) (n cap : Nat) (w : World) (h : IntsAt w a n xs) :
    Calls Tryz.prog 71 #[.slice a n cap, .int .i64 x] w fun e w' => e = .returned (.int .i64 (idxOf xs x 0)) ∧ w' = w := by
  have H := Lib.hid h
  have HL := Lib.hid h.2.1
  have hn : n ≤ 9223372036854775807 := h.1
  clear h
  obtain ⟨R, hR⟩ : ∃ R, R = idxOf xs x 0 := ⟨_, rfl⟩
  rw [← hR]
  have FIN := Lib.hid hR
  clear hR
  go_enter Tryz.func71, Tryz.ntmps71
  go_wp2
  go_loopw [8] (fun v wj => ∃ k : Nat, k ≤ n ∧ v = .int .i64 (k : Int) ∧ wj = w ∧ R = idxOf (xs.drop k) x k) (fun v _ => n - (intOf v).toNat)
  case atStart => exact ⟨0, by omega, rfl, rfl, by rw [FIN.out, List.drop_zero]⟩
  case round =>
    obtain ⟨k, hk, rfl, rfl, hq⟩ := hrel
    have HQ := Lib.hid hq
    clear hq
    by_cases hlt : k < n
    · have hki : (k : Int) < (n : Int) := by omega
      obtain ⟨y, b1, o1, hx, rfl, h1⟩ := H.out.2.at hlt
      have HX := Lib.hid hx
      have g1 : wr.cell? ⟨b1, o1 + k, none⟩ = some (.int .i64 y) := by simpa [intAt] using h1
      clear hx h1
      have HST : Hid (R = if x = y then (k : Int) else idxOf (xs.drop (k + 1)) x (k + 1)) := by
        show _ = _
        rw [HQ.out, drop_at HX.out, idxOf]
      by_cases he : x = y
      · subst he
        go_wp2
        go_returns
        exact ⟨by rw [HST.out]; simp, rfl⟩
      · have HE := Lib.hid he
        go_wp2
        go_roundw
        case rel => exact ⟨k + 1, by omega, by go_num, by first | trivial | rfl, by rw [HST.out, if_neg HE.out]⟩
        case measure => simp [intOf]; omega
    · obtain rfl : k = n := by omega
      have hge : ¬ (k : Int) < (k : Int) := by omega
      go_wp2
      go_returns
      exact ⟨by rw [HQ.out, List.drop_of_length_le (by have := HL.out; omega)]; rfl, rfl⟩
theorem c_contains (xs : List Int) (x : Int) (a : Option Addr) (n cap : Nat) (w : World) (h : IntsAt w a n xs) :
    Calls Tryz.prog 54 #[.slice a n cap, .int .i64 x] w fun e w' => e = .returned (.bool (decide (x ∈ xs))) ∧ w' = w := by
  have H := Lib.hid h
  clear h
  obtain ⟨b, hb⟩ : ∃ b, decide (0 ≤ idxOf xs x 0) = b := ⟨_, rfl⟩
  have HB := Lib.hid hb
  have HM : Hid (decide (x ∈ xs) = b) := by show _ = _; rw [← hb, idxOf_mem]
  clear hb
  go_enter Tryz.func54, Tryz.ntmps54
  go_wp2_with (go_at_call 71; (with_reducible refine (c_index xs x _ _ _ _ H.out).mono ?_); rintro e w1 ⟨rfl, hw1⟩; obtain rfl := hw1.symm)
  go_returns
  exact ⟨by rw [HM.out, ← HB.out]; rfl, rfl⟩
end Go.Proofs.YthjpfplebbnbpaaGreat
