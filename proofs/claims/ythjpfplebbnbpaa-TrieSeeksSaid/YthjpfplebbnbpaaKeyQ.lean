/- A cursor's Key again: it only draws. -/
import Derived.Test.YthjpfplebbnbpaaWkd
namespace Go.Proofs.Ythjpfplebbnbpaa
open Go.ChangeShapes Go.WideShapes Go.ChangeAt Go.RowKit
set_option maxRecDepth 100000 in
theorem c_keyQ (pc pt lo g d : Nat) (ways : List (List ByteArray)) (pre : List (Nat × Nat)) (f t A B : Nat) (w : World) (h : CurV w lo pc pt (some g) (pre ++ [(f, t)])) (ht : TrieV w pt d ways) (hf : CurFacts d ways pre f t A B) (hft : f < t) :
    Calls Try.prog 24 #[.pointer (some ⟨pc, 0, none⟩)] w fun e w' => e = .returned (.string (keyAt ways pre.length (st ways pre.length f))) ∧ ∃ q, w' = w.drewN q := by
  have L := Lib.hid (c_last pc pt lo g pre f t w h)
  have H := Lib.hid h
  obtain ⟨g', c, e, y0, y1, _, hc, z0, z1, z2, hcm⟩ := h.last
  cases e
  have AE : Hid (∀ w1, (∃ q, w1 = w.drewN q) → Calls Try.prog 10 #[.pointer (some ⟨pc, 0, none⟩)] w1 fun e w' => e = .returned (.bool false) ∧ ∃ q, w' = w.drewN q) := fun w1 ⟨q1, hq1⟩ => by
    subst hq1
    have A := c_atEnd pc pt lo (some g) (pre ++ [(f, t)]) _ (H.out.ext (ext_drewN (Below.refl _ _) q1))
    rw [endB_snoc, show decide (f = t) = false by simp; omega] at A
    exact A.mono fun e w' ⟨r1, q, r2⟩ => ⟨r1, q1 + q, by rw [r2, World.drewN_drewN]⟩
  obtain ⟨gl, kb, ko, kc, t0, t1, t2, hfN⟩ := ht.reads hf hft
  have hdep := hf.dep
  obtain ⟨x, hx⟩ : ∃ x, keyAt ways pre.length (st ways pre.length f) = x := ⟨_, rfl⟩
  rw [hx] at t2 ⊢
  obtain ⟨M, hM⟩ : ∃ M, wid ways pre.length ways.length = M := ⟨_, rfl⟩
  rw [hM] at t1 hfN
  obtain ⟨k, hk⟩ : ∃ k, pre.length = k := ⟨_, rfl⟩
  rw [hk] at L y1 z0 z1 z2 hc t1 hdep
  have hcm2 : c ≤ 9223372036854775807 := hcm
  have r1 : IntKind.i64.wrap (k : Int) = (k : Int) := by rw [IntKind.wrap_i64]; omega
  have r2 : (k : Int) < (d : Int) := by omega
  have r3 : (f : Int) < (M : Int) := by omega
  clear h hft hx hf hk ht hcm hM
  go_enter Try.func24, Try.ntmps24
  go_upto_region 4 with (first
    | (go_at_call 37; (with_reducible refine L.out.mono ?_); rintro e w1 ⟨rfl, hw1⟩; have Q1 := Lib.hid hw1; clear hw1)
    | (go_at_call 10; (with_reducible refine (AE.out _ Q1.out).mono ?_); rintro e w2 ⟨rfl, hw2⟩; have Q2 := Lib.hid hw2; clear hw2))
  have E2 : Ext w w2 := by obtain ⟨q, hq⟩ := Q2.out; rw [hq]; exact ext_drewN (Below.refl _ _) q
  have k0 := keep E2 z0
  have k3 := keep E2 y0
  have k4 := keep E2 y1
  have k5 := keep E2 t0
  have k6 := keep E2 t1
  have k7 := keep E2 t2
  go_quiet (fail)
  go_wp2
  go_returns
  exact ⟨rfl, by obtain ⟨q, hq⟩ := Q2.out; exact ⟨_, by rw [hq, World.drewN_drewN]⟩⟩
end Go.Proofs.Ythjpfplebbnbpaa
