/- THE LAW WeighRings of layer 27: for any two numbers of 64 bits it returns true. No condition. -/
import Derived.Test.YtoalkgpbpjfioaaWalks
namespace Go.Proofs.Ytoalkgpbpjfioaa.weighRings
open Go.ChangeShapes Go.WideShapes Go.ChangeAt Go.RowKit
attribute [local go_sem] runStoreFloat

theorem nf23 (n : FuncId) (w : World) : (binOp .eql 23 (.func (.func n) #[] #[]) .nilFunc).run Try.prog w = .ok (.bool false) w := by kernel_rfl
theorem nf27 (n : FuncId) (w : World) : (binOp .eql 27 (.func (.func n) #[] #[]) .nilFunc).run Try.prog w = .ok (.bool false) w := by kernel_rfl
theorem nf28 (n : FuncId) (w : World) : (binOp .eql 28 (.func (.func n) #[] #[]) .nilFunc).run Try.prog w = .ok (.bool false) w := by kernel_rfl
theorem nf33 (n : FuncId) (w : World) : (binOp .eql 33 (.func (.func n) #[] #[]) .nilFunc).run Try.prog w = .ok (.bool false) w := by kernel_rfl
theorem nf34 (n : FuncId) (w : World) : (binOp .eql 34 (.func (.func n) #[] #[]) .nilFunc).run Try.prog w = .ok (.bool false) w := by kernel_rfl
attribute [local go_sem] nf23 nf27 nf28 nf33 nf34
theorem tr_01 (x : Int) (h0 : 0 ≤ x) (h1 : x < 18446744073709551616) : (bits .and .u64 x 1 = 0 ∧ tr x = false) ∨ (bits .and .u64 x 1 = 1 ∧ tr x = true) := by
  have h := and_one_u64 x h0 (by omega)
  unfold tr
  rw [h]
  have : x % 2 = 0 ∨ x % 2 = 1 := by omega
  rcases this with h | h <;> rw [h] <;> simp
theorem or_and (x y : Int) (h0 : 0 ≤ x) (h1 : x < 18446744073709551616) (h2 : 0 ≤ y) (h3 : y < 18446744073709551616) :
    tr (bits .or .u64 (bits .and .u64 x 1) (bits .and .u64 y 1)) = (tr x || tr y) ∧ tr (bits .and .u64 (bits .and .u64 x 1) (bits .and .u64 y 1)) = (tr x && tr y) := by
  rcases tr_01 x h0 h1 with ⟨a1, b1⟩ | ⟨a1, b1⟩ <;> rcases tr_01 y h2 h3 with ⟨a2, b2⟩ | ⟨a2, b2⟩ <;> rw [a1, a2, b1, b2] <;> decide +kernel
theorem grown_drewN {w w' : World} (h : Grown w w') : (n : Nat) → Grown w (w'.drewN n)
  | 0 => h
  | n + 1 => by rw [← World.drew_drewN]; exact (grown_drewN h n).drew
/-- What an operation of floats came to. -/
def FOk (o : Option Nat) (r : Nat) : Prop := o = some r ∨ (o = none ∧ isnan r = true)
theorem FOk.alike {o : Option Nat} {r r' : Nat} (h : FOk o r) (h' : FOk o r') (v : World) : Calls Try.prog 14 #[.float .f64 r, .float .f64 r'] v fun e w' => e = .returned (.bool true) ∧ v = w' := by
  rcases h with h | ⟨h, hn⟩ <;> rcases h' with h' | ⟨h', hn'⟩
  · rw [h] at h'; cases h'; exact c14_same r v
  · rw [h] at h'; cases h'
  · rw [h] at h'; cases h'
  · exact c14_nan r r' hn hn' v
theorem FRes.ok {o : Option Nat} {r : Nat} {w w' : World} (h : FRes o r w w') : ∃ n, FOk o r ∧ w.drewN n = w' := by
  rcases h with ⟨h, rfl⟩ | ⟨h, hn, rfl⟩
  · exact ⟨0, .inl h, by simp [World.drewN]⟩
  · exact ⟨1, .inr ⟨h, hn⟩, by simp [World.drewN]⟩
theorem d25 (x y : Nat) (w : World) : Calls Try.prog 25 #[.float .f64 x, .float .f64 y] w fun e w' => ∃ r n, e = .returned (.float .f64 r) ∧ FOk (FloatKind.f64.format.add x y) r ∧ w.drewN n = w' :=
  (c25 x y w).mono fun _ _ ⟨r, h, hr⟩ => let ⟨n, a, b⟩ := hr.ok; ⟨r, n, h, a, b⟩
theorem d28 (x y : Nat) (w : World) : Calls Try.prog 28 #[.float .f64 x, .float .f64 y] w fun e w' => ∃ r n, e = .returned (.float .f64 r) ∧ FOk (FloatKind.f64.format.mul x y) r ∧ w.drewN n = w' :=
  (c28 x y w).mono fun _ _ ⟨r, h, hr⟩ => let ⟨n, a, b⟩ := hr.ok; ⟨r, n, h, a, b⟩
theorem d10_2 (x y : Nat) (w : World) : Calls Try.prog 10 #[.int .i64 2, .int .u64 x, .int .u64 y] w fun e w' => ∃ r n, e = .returned (.int .u64 (r : Nat)) ∧ FOk (FloatKind.f64.format.add x y) r ∧ w.drewN n = w' :=
  (c10_2 x y w).mono fun _ _ ⟨r, h, hr⟩ => let ⟨n, a, b⟩ := hr.ok; ⟨r, n, h, a, b⟩
theorem d10_3 (x y : Nat) (w : World) : Calls Try.prog 10 #[.int .i64 3, .int .u64 x, .int .u64 y] w fun e w' => ∃ r n, e = .returned (.int .u64 (r : Nat)) ∧ FOk (FloatKind.f64.format.mul x y) r ∧ w.drewN n = w' :=
  (c10_3 x y w).mono fun _ _ ⟨r, h, hr⟩ => let ⟨n, a, b⟩ := hr.ok; ⟨r, n, h, a, b⟩

set_option linter.unusedVariables false
set_option maxRecDepth 100000 in
set_option maxHeartbeats 4000000 in
theorem law (x y : Nat) (hx : x < 18446744073709551616) (hy : y < 18446744073709551616) (w : World) :
    Calls Try.prog 3 #[.int .u64 x, .int .u64 y] w fun e w' => e = .returned (.bool true) ∧ Grown w w' := by
  obtain ⟨E1, E2⟩ := or_and x y (by omega) (by omega) (by omega) (by omega)
  go_enter Try.func3, Try.ntmps3
  go_wp2_with (first | (go_at_call 4; (with_reducible refine (c4 _).mono ?_); rintro e w' ⟨rfl, rfl⟩) | (go_at_call 5; (with_reducible refine (c5 _).mono ?_); rintro e w' ⟨rfl, rfl⟩) | (go_at_call 6; (with_reducible refine (c6 _).mono ?_); rintro e w' ⟨rfl, rfl⟩) | (go_at_call 7; (with_reducible refine (c7 _).mono ?_); rintro e w' ⟨rfl, rfl⟩) | (go_at_call 8; (with_reducible refine (c8 _ _).mono ?_); rintro e w' ⟨rfl, rfl⟩) | (go_at_call 9; (with_reducible refine (c9_0 _ _ _).mono ?_); rintro e w' ⟨rfl, rfl⟩) | (go_at_call 10; (with_reducible refine (c10_0 _ _ _).mono ?_); rintro e w' ⟨rfl, rfl⟩) | (go_at_call 15; (with_reducible refine (c15 _ _ _).mono ?_); rintro e w' ⟨rfl, rfl⟩) | (go_at_call 16; (with_reducible refine (c16 _ _ _).mono ?_); rintro e w' ⟨rfl, rfl⟩) | (go_at_call 17; (with_reducible refine (c17 _ _ _).mono ?_); rintro e w' ⟨rfl, rfl⟩) | (go_at_call 9; (with_reducible refine (c9_1 _ _ hx hy _).mono ?_); rintro e w' ⟨rfl, rfl⟩) | (go_at_call 10; (with_reducible refine (c10_1 _ _ _).mono ?_); rintro e w' ⟨rfl, rfl⟩) | (go_at_call 11; (with_reducible refine (c11_1 _ _ _).mono ?_); rintro e w' ⟨rfl, rfl⟩) | (go_at_call 18; (with_reducible refine (c18 _ _ hx hy _).mono ?_); rintro e w' ⟨rfl, rfl⟩) | (go_at_call 20; (with_reducible refine (c20 _ _ hx hy _).mono ?_); rintro e w' ⟨rfl, rfl⟩) | (go_at_call 22; (with_reducible refine (c22 _ _ _).mono ?_); rintro e w' ⟨rfl, rfl⟩) | (go_at_call 12; (with_reducible refine (c12 _ _).mono ?_); rintro e w' ⟨rfl, rfl⟩) | (go_at_call 13; (with_reducible refine (c13 _).mono ?_); rintro e w' ⟨rfl, rfl⟩) | (go_at_call 23; (with_reducible refine (c23 _ _ _).mono ?_); rintro e w' ⟨rfl, rfl⟩) | (go_at_call 27; (with_reducible refine (c27 _ _ _).mono ?_); rintro e w' ⟨rfl, rfl⟩) | (go_at_call 9; (with_reducible refine (c9_2 _ _ _).mono ?_); rintro e w' ⟨rfl, rfl⟩) | (go_at_call 9; (with_reducible refine (c9_3 _ _ _).mono ?_); rintro e w' ⟨rfl, rfl⟩) | (go_at_call 11; (with_reducible refine (c11_2 _ _ _).mono ?_); rintro e w' ⟨rfl, rfl⟩) | (go_at_call 11; (with_reducible refine (c11_3 _ _ _).mono ?_); rintro e w' ⟨rfl, rfl⟩) | (go_at_call 26; (with_reducible refine (c26 _ _ _).mono ?_); rintro e w' ⟨rfl, rfl⟩) | (go_at_call 14; (with_reducible refine (c14_same _ _).mono ?_); rintro e w' ⟨rfl, rfl⟩) | (go_at_call 25; (with_reducible refine (d25 _ _ _).mono ?_); rintro e w' ⟨r, n, rfl, F1, rfl⟩) | (go_at_call 28; (with_reducible refine (d28 _ _ _).mono ?_); rintro e w' ⟨r, n, rfl, F3, rfl⟩) | (go_at_call 10; (with_reducible refine (d10_2 _ _ _).mono ?_); rintro e w' ⟨r, n, rfl, F2, rfl⟩) | (go_at_call 10; (with_reducible refine (d10_3 _ _ _).mono ?_); rintro e w' ⟨r, n, rfl, F4, rfl⟩) | (go_at_call 14; (with_reducible refine (FOk.alike F1 F2 _).mono ?_); rintro e w' ⟨rfl, rfl⟩) | (go_at_call 14; (with_reducible refine (FOk.alike F3 F4 _).mono ?_); rintro e w' ⟨rfl, rfl⟩))
  go_ret
  exact ⟨rfl, by repeat (first | exact Grown.refl _ | apply grown_drewN | apply Grown.drew | apply Grown.alloc)⟩

theorem own : ownKnob Try.prog.godebug = none := by kernel_rfl
theorem u64_nat {a : Int} (h : (Lit.int .u64 a).wf = true) : ∃ n : Nat, a = n ∧ n < 18446744073709551616 := by
  have hb := bounds_u64 h
  exact ⟨a.toNat, by omega, by omega⟩
/-! ### THE ROW's STEP: WRITTEN OUT: LEAVE IT -/
set_option maxRecDepth 100000 in
theorem lifted (os : Os) (started : os.Started) (H : Type) (enc : TypeId × Value → H) :
    ReturnsInHanded {} Try.checked os 3 .any (Rows.weighRingsSpec.pre6 enc Try.prog Try.f3 Rows.weighRingsRow.domain false) (Rows.weighRingsSpec.post enc Try.prog Try.f3 false true false false) := by
  refine returnsInHanded_of_change (C := Try.checked) own started (by kernel_rfl) Try.func3
    (ChangeSpec.witness6 (enc := enc) (C := Try.checked) false ⟨#[], #[.int .u64 0, .int .u64 0], []⟩ 8 (by kernel_rfl) (by kernel_rfl) (by kernel_rfl) (by kernel_rfl)) ?_
  intro W base args ds gs before hval0 hW hcnd _
  have hval : ∀ (j : Nat) t v, Try.f3.params[j]? = some t → args[j]? = some v → Value.okWide Try.prog W .any base t v := hval0
  have hW' := hW
  obtain ⟨p, q, hA0, hV, rfl, hfz, hnd⟩ := hW
  have hA : DataW.TrodAll enc Try.prog W 0 (fun _ => true) true Try.f3.params.toList args.toList ds p := hA0
  rw [Try.params3] at hA hval
  obtain ⟨v0, vs0, d0, ds0, p0, q0, hargs, rfl, rfl, h0, r0⟩ := trodAll_cons hA
  obtain ⟨v1, vs1, d1, ds1, p1, q1, rfl, rfl, rfl, h1, r1⟩ := trodAll_cons r0
  obtain ⟨rfl, rfl, rfl⟩ := trodAll_nil r1
  obtain rfl : args = #[v0, v1] := by cases args; simp_all
  obtain ⟨rfl, rfl⟩ := trodVars_none hV
  obtain ⟨a0, rfl, rfl, rfl, w0⟩ := open_int Try.underlying22 (hval 0 22 v0 rfl rfl) h0
  obtain ⟨a1, rfl, rfl, rfl, w1⟩ := open_int Try.underlying22 (hval 1 22 v1 rfl rfl) h1
  clear hA0 hval0
  simp only [List.append_nil] at hW'
  obtain ⟨n0, rfl, b0⟩ := u64_nat w0
  obtain ⟨n1, rfl, b1⟩ := u64_nat w1
  refine (law n0 n1 b0 b1 W).mono fun e W' ⟨he, hg⟩ => ?_
  subst he
  exact ⟨_, rfl, post_of_same (pa := []) (pv := []) hW' (fun _ _ _ => (trodAll_cons_mk (shut_bool Try.underlying4 _) trodAll_mk0)) (fun sp _ => (trodAll_cons_mk (shut_int Try.underlying22 w0) (trodAll_cons_mk (shut_int Try.underlying22 w1) trodAll_mk0))) (fun _ _ => rfl) rfl
    (hg.frame _) hg.2.1 (ok_one (by kernel_rfl) rfl (okWide_bool_mk Try.underlying4 _))⟩

theorem over : Rows.weighRingsRow.holds Try.pinned (OpenSpec.ofChange Rows.weighRingsSpec) :=
  OpenClaim.holds_of_wide 3 Try.f3 rfl rfl rfl rfl rfl rfl rfl ⟨rfl, rfl, rfl, rfl, rfl⟩ rfl rfl rfl rfl rfl (by kernel_rfl) Try.func3 (by kernel_rfl)
    (of_decide_eq_true (by kernel_rfl)) (by unfold Func.isWrapper; first | (rw [if_pos (by decide +kernel)]; kernel_rfl) | (rw [if_neg (by decide +kernel)]; exact ⟨rfl, rfl⟩))
    (fun os started H enc _ => lifted os started H enc)

/-- ████ THE STATEMENT ████ -/
theorem proved : Rows.WeighRingsSaid :=
  over
#print axioms proved
end Go.Proofs.Ytoalkgpbpjfioaa.weighRings
