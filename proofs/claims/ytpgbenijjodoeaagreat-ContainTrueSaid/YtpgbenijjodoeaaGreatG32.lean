/- slices.Index and slices.Contains at terms. -/
import Derived.Test.YtpgbenijjodoeaaGreatG18
namespace Go.Proofs.YtpgbenijjodoeaaGreat
open Go.ChangeShapes Go.WideShapes Go.ChangeAt Go.RowKit
open K (Term Atom Rule TermsAt LitsAt RuleV termAt litAt)
/-- Where a term first stands. -/
def idxT (xs : List Term) (t : Term) : Int := match xs.findIdx? (fun y => decide (t = y)) with
  | some k => (k : Nat)
  | none => -1
theorem idxT_at {xs : List Term} {t : Term} {k : Nat} (h1 : xs[k]? = some t) (h2 : ∀ j y, j < k → xs[j]? = some y → t ≠ y) : idxT xs t = (k : Int) := by
  have : xs.findIdx? (fun y => decide (t = y)) = some k := by
    rw [List.findIdx?_eq_some_iff_getElem]
    obtain ⟨hk, e⟩ := List.getElem?_eq_some_iff.1 h1
    refine ⟨hk, by simp [e], fun j hj => ?_⟩
    have := h2 j xs[j] hj (List.getElem?_eq_getElem (by omega))
    simp [this]
  unfold idxT
  rw [this]
theorem idxT_no {xs : List Term} {t : Term} (h : ∀ (j : Nat) (y : Term), xs[j]? = some y → t ≠ y) : idxT xs t = -1 := by
  have : xs.findIdx? (fun y => decide (t = y)) = none := by
    rw [List.findIdx?_eq_none_iff]
    intro x hx
    obtain ⟨j, hj⟩ := List.mem_iff_getElem?.1 hx
    simp [h j x hj]
  unfold idxT
  rw [this]
theorem first_at {α : Type} [DecidableEq α] {xs : List α} {t : α} (h : t ∈ xs) : ∃ k : Nat, xs[k]? = some t ∧ ∀ j y, j < k → xs[j]? = some y → t ≠ y := by
  induction xs with
  | nil => cases h
  | cons x xs ih =>
    by_cases hx : t = x
    · exact ⟨0, by rw [hx]; rfl, fun j y hj => absurd hj (by omega)⟩
    · obtain ⟨k, h1, h2⟩ := ih ((List.mem_cons.1 h).resolve_left hx)
      refine ⟨k + 1, by simpa using h1, fun j y hj hy => ?_⟩
      cases j with
      | zero =>
        simp at hy
        rw [← hy]
        exact hx
      | succ j => exact h2 j y (by omega) (by simpa using hy)
theorem idxT_mem {xs : List Term} {t : Term} (h : t ∈ xs) : ∃ k : Nat, idxT xs t = (k : Int) ∧ xs[k]? = some t := by
  obtain ⟨k, h1, h2⟩ := first_at h
  exact ⟨k, idxT_at h1 h2, h1⟩
theorem idxB_mem {xs : List ByteArray} {t : ByteArray} (h : t ∈ xs) : ∃ k : Nat, idxB xs t = (k : Int) ∧ xs[k]? = some t := by
  obtain ⟨k, h1, h2⟩ := first_at h
  exact ⟨k, idxB_at h1 h2, h1⟩
theorem idxT_nonneg (xs : List Term) (t : Term) : 0 ≤ idxT xs t ↔ t ∈ xs := by
  constructor
  · intro h
    by_cases hm : t ∈ xs
    · exact hm
    · rw [idxT_no fun j y hj e => hm (by subst e; exact List.mem_of_getElem? hj)] at h
      omega
  · intro h
    obtain ⟨k, e, _⟩ := idxT_mem h
    omega
set_option maxRecDepth 100000 in
theorem c_indexT (xs : List Term) (t : Term) (a : Option Addr) (n cap : Nat) (w : World) (h : TermsAt w a n xs) :
    Calls Tryz.prog 100 #[.slice a n cap, termV t] w fun e w' => e = .returned (.int .i64 (idxT xs t)) ∧ Ext w w' := by
  have H := Lib.hid h
  have HL := Lib.hid h.2.1
  have hn := h.1
  have eqt := K.eql_term
  clear h
  go_enter Tryz.func100, Tryz.ntmps100
  go_wp2
  refine wp_gen (fun W hW => ?_)
  obtain ⟨pb, hpb⟩ : ∃ pb, pb = w.heap.size := ⟨_, rfl⟩
  have EW : Hid (Ext w W) := by show Ext _ _; rw [hW]; exact ext_alloc (Below.refl _ _) _
  have C0 : Hid (W.cell? ⟨pb, 0, none⟩ = some (.int .i64 t.kind)) := by show _ = _; rw [hW, hpb]; go_simp
  have C1 : Hid (W.cell? ⟨pb, 1, none⟩ = some (.string t.text)) := by show _ = _; rw [hW, hpb]; go_simp
  rw [← hpb]
  clear hW hpb
  go_loopw [8] (fun iv wr => Ext W wr ∧ ∃ k : Nat, iv = .int .i64 (k : Nat) ∧ k ≤ n ∧ ∀ j y, j < k → xs[j]? = some y → t ≠ y) (fun iv _ => n - (intOf iv).toNat)
  case atStart => exact ⟨Below.refl _ _, 0, rfl, Nat.zero_le _, fun j y h => absurd h (by omega)⟩
  case round =>
    obtain ⟨hE, k, rfl, hkn, hall⟩ := hrel
    have HE := Lib.hid hE
    have HA := Lib.hid hall
    have HEW : Hid (Ext w wr) := ext_trans EW.out hE
    clear hall hE
    by_cases hk : k < n
    · have hki : (k : Int) < (n : Int) := by omega
      obtain ⟨y, b, off, h1, rfl, h2, h3, h4⟩ := (H.out.keep HEW.out).2.at hk
      have HX := Lib.hid h1
      have c0 := keep HE.out C0.out
      have c1 := keep HE.out C1.out
      clear h1
      obtain ⟨q, hq⟩ : ∃ q, K.termEq t.kind t.text y.kind y.text = q := ⟨_, rfl⟩
      have HQ : Hid (decide (t = y) = q) := by show _ = _; rw [← hq, K.termEq_iff]
      cases q with
      | true =>
        go_wp2_with fail
        go_quiet (fail)
        all_goals
          go_wp2
          go_ret
          refine ⟨ret_int (b := idxT xs t) ?_, ext_trans HEW.out (ext_drewN (Below.refl _ _) _)⟩
          have e : t = y := of_decide_eq_true HQ.out
          rw [idxT_at (by rw [e]; exact HX.out) HA.out]
      | false =>
        go_wp2_with fail
        go_quiet (fail)
        all_goals
          go_wp2
          go_roundw
          case rel =>
            refine ⟨ext_trans HE.out (ext_drewN (Below.refl _ _) _), k + 1, by simp, by omega, fun j z hj hz => ?_⟩
            rcases Nat.lt_or_ge j k with h | h
            · exact HA.out j z h hz
            · obtain rfl : j = k := by omega
              rw [HX.out] at hz
              cases hz
              exact of_decide_eq_false HQ.out
          case measure => simp [intOf]; omega
    · obtain rfl : k = n := by omega
      have hge : ¬ (k : Int) < (k : Int) := by omega
      go_wp2
      go_ret
      exact ⟨ret_int (b := idxT xs t) (by rw [idxT_no fun j y hj => HA.out j y (by rw [← HL.out]; exact (List.getElem?_eq_some_iff.1 hj).1) hj]), HEW.out⟩
theorem c_contTm (xs : List Term) (t : Term) (a : Option Addr) (n cap : Nat) (w : World) (h : TermsAt w a n xs) :
    Calls Tryz.prog 98 #[.slice a n cap, termV t] w fun e w' => e = .returned (.bool (decide (t ∈ xs))) ∧ Ext w w' := by
  have H := Lib.hid h
  clear h
  have IX : Hid (∀ W, Ext w W → Calls Tryz.prog 100 #[.slice a n cap, termV t] W fun e w' => e = .returned (.int .i64 (idxT xs t)) ∧ Ext W w') := fun W hW => c_indexT xs t a n cap W (H.out.keep hW)
  go_enter Tryz.func98, Tryz.ntmps98
  go_wp2_with (go_at_call 100; (with_reducible refine (IX.out _ (ext_alloc (Below.refl _ _) _)).mono ?_); rintro e w1 ⟨rfl, hb⟩)
  go_ret
  exact ⟨ret_bool (by simp only [decide_eq_decide]; exact idxT_nonneg xs t), ext_trans (ext_alloc (Below.refl _ _) _) hb⟩
end Go.Proofs.YtpgbenijjodoeaaGreat
