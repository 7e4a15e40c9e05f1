/- ContainsFunc at terms by lint's tests. Printed by mk_ln1.py. -/
import Derived.Test.YtlalgaioiapjmaaGreatDoorG12
namespace Go.Proofs.YtlalgaioiapjmaaGreatDoor
open Go.ChangeShapes Go.WideShapes Go.ChangeAt Go.RowKit
open K (Term TermsAt)
def blankT (t : Term) : Bool := decide (t.kind = 2)
theorem c_AggL1 (t : Term) (w : World) :
    Calls Tryz.prog 71 #[.agg #[.int .i64 t.kind, .string t.text]] w fun e w' => e = .returned (.bool (aggT t)) ∧ Ext w w' := by
  go_enter Tryz.func71, Tryz.ntmps71
  go_wp2
  go_returns
  exact ⟨rfl, ext_alloc (Below.refl _ _) _⟩
theorem c_IndexAggL (ts : List Term) (a : Option Addr) (n cap : Nat) (w : World) (ht : TermsAt w a n ts) :
    Calls Tryz.prog 102 #[.slice a n cap, .func (.func 71) #[] #[]] w (K.IdxPost (ts.any aggT) w) := by
  have hn := ht.1
  have HL := Lib.hid ht.2.1
  have HT := Lib.hid ht
  clear ht
  go_enter Tryz.func102, Tryz.ntmps102
  go_wp2
  go_loopw [8] (fun i wr => ∃ k : Nat, k ≤ n ∧ i = .int .i64 k ∧ Ext w wr ∧ ts.any aggT = (ts.drop k).any aggT) (fun i _ => n - (intOf i).toNat)
  case atStart => exact ⟨0, by omega, rfl, Below.refl _ _, by simp⟩
  case round =>
    obtain ⟨k, hk, rfl, hb, hq⟩ := hrel
    have HQ := Lib.hid hq
    clear hq
    by_cases hlt : k < n
    · obtain ⟨t, bt, off, hx, rfl, hc1, hc2, hc3⟩ := (HT.out.keep hb).2.at hlt
      have HX := Lib.hid (drop_at hx)
      clear hx
      go_wp2_with (go_at_call 71; (with_reducible refine (c_AggL1 t _).mono ?_); rintro e w2 ⟨rfl, hb2⟩)
      · go_ret
        refine ⟨_, rfl, ?_, ext_trans hb hb2⟩
        rw [HQ.out, HX.out]
        simp_all
      · go_roundw
        case rel => exact ⟨k + 1, by omega, by go_num, ext_trans hb hb2, by rw [HQ.out, HX.out]; simp_all⟩
        case measure => simp [intOf]; omega
    · go_wp2
      go_ret
      refine ⟨_, rfl, ?_, hb⟩
      rw [HQ.out, List.drop_of_length_le (by have := HL.out; omega)]
      rfl
theorem c_ContainsAggL (ts : List Term) (a : Option Addr) (n cap : Nat) (w : World) (ht : TermsAt w a n ts) :
    Calls Tryz.prog 67 #[.slice a n cap, .func (.func 71) #[] #[]] w fun e w' => e = .returned (.bool (ts.any aggT)) ∧ Ext w w' := by
  go_enter Tryz.func67, Tryz.ntmps67
  go_wp2_with (go_at_call 102; (with_reducible refine (c_IndexAggL ts _ _ _ _ ht).mono ?_); rintro e w2 ⟨i, rfl, hi, hb2⟩)
  go_ret
  exact ⟨rfl, hb2⟩
theorem c_Blank1 (t : Term) (w : World) :
    Calls Tryz.prog 68 #[.agg #[.int .i64 t.kind, .string t.text]] w fun e w' => e = .returned (.bool (blankT t)) ∧ Ext w w' := by
  go_enter Tryz.func68, Tryz.ntmps68
  go_wp2
  go_returns
  exact ⟨rfl, ext_alloc (Below.refl _ _) _⟩
theorem c_IndexBlank (ts : List Term) (a : Option Addr) (n cap : Nat) (w : World) (ht : TermsAt w a n ts) :
    Calls Tryz.prog 102 #[.slice a n cap, .func (.func 68) #[] #[]] w (K.IdxPost (ts.any blankT) w) := by
  have hn := ht.1
  have HL := Lib.hid ht.2.1
  have HT := Lib.hid ht
  clear ht
  go_enter Tryz.func102, Tryz.ntmps102
  go_wp2
  go_loopw [8] (fun i wr => ∃ k : Nat, k ≤ n ∧ i = .int .i64 k ∧ Ext w wr ∧ ts.any blankT = (ts.drop k).any blankT) (fun i _ => n - (intOf i).toNat)
  case atStart => exact ⟨0, by omega, rfl, Below.refl _ _, by simp⟩
  case round =>
    obtain ⟨k, hk, rfl, hb, hq⟩ := hrel
    have HQ := Lib.hid hq
    clear hq
    by_cases hlt : k < n
    · obtain ⟨t, bt, off, hx, rfl, hc1, hc2, hc3⟩ := (HT.out.keep hb).2.at hlt
      have HX := Lib.hid (drop_at hx)
      clear hx
      go_wp2_with (go_at_call 68; (with_reducible refine (c_Blank1 t _).mono ?_); rintro e w2 ⟨rfl, hb2⟩)
      · go_ret
        refine ⟨_, rfl, ?_, ext_trans hb hb2⟩
        rw [HQ.out, HX.out]
        simp_all
      · go_roundw
        case rel => exact ⟨k + 1, by omega, by go_num, ext_trans hb hb2, by rw [HQ.out, HX.out]; simp_all⟩
        case measure => simp [intOf]; omega
    · go_wp2
      go_ret
      refine ⟨_, rfl, ?_, hb⟩
      rw [HQ.out, List.drop_of_length_le (by have := HL.out; omega)]
      rfl
theorem c_ContainsBlank (ts : List Term) (a : Option Addr) (n cap : Nat) (w : World) (ht : TermsAt w a n ts) :
    Calls Tryz.prog 67 #[.slice a n cap, .func (.func 68) #[] #[]] w fun e w' => e = .returned (.bool (ts.any blankT)) ∧ Ext w w' := by
  go_enter Tryz.func67, Tryz.ntmps67
  go_wp2_with (go_at_call 102; (with_reducible refine (c_IndexBlank ts _ _ _ _ ht).mono ?_); rintro e w2 ⟨i, rfl, hi, hb2⟩)
  go_ret
  exact ⟨rfl, hb2⟩
theorem c_aggregateL (p : ByteArray) (ts : List Term) (a : Option Addr) (n cap : Nat) (bs : Value) (w : World) (ht : TermsAt w a n ts) (hb : ∃ x y z, bs = .slice x y z) :
    Calls Tryz.prog 35 #[.agg #[.string p, .slice a n cap, bs]] w fun e w' => e = .returned (.bool (ts.any aggT)) ∧ Ext w w' := by
  have CF : Hid (∀ o, Calls Tryz.prog 67 #[.slice a n cap, .func (.func 71) #[] #[]] (w.alloc o) fun e w' => e = .returned (.bool (ts.any aggT)) ∧ Ext (w.alloc o) w') := fun o => c_ContainsAggL ts a n cap _ (ht.keep (ext_alloc (Below.refl _ _) o))
  obtain ⟨x, y, z, rfl⟩ := hb
  clear ht
  go_enter Tryz.func35, Tryz.ntmps35
  go_wp2_with (go_at_call 67; (with_reducible refine (CF.out _).mono ?_); rintro e w2 ⟨rfl, hb2⟩)
  go_returns
  exact ⟨rfl, ext_after hb2 (ext_alloc (Below.refl _ _) _)⟩
end Go.Proofs.YtlalgaioiapjmaaGreatDoor
