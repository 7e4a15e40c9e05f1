/- The walks of contain.Within and contain.Same. -/
import Derived.Test.YtcphjfggjjonpaaLaid
namespace Go.Proofs.Ytcphjfggjjonpaa
open Go.ChangeShapes Go.WideShapes Go.ChangeAt Go.RowKit
theorem laid_zero {r s : Rule} {l : List Nat} (h : (laid r s).2 = some l) : (laid r s).1 = 0 := by
  revert h
  unfold laid
  repeat' split
  all_goals simp
/-- What Laid answers, in one shape. -/
def LaidOut (r s : Rule) (w : World) (v : Value) (w' : World) : Prop :=
  (∃ a n cap, v = .slice a n cap) ∧ ((laid r s).2 = none → v = .slice none 0 0) ∧ ∀ l, (laid r s).2 = some l → w'.ownsRow w.heap.size 3 1 v l.length (intsV l)
theorem c_Laid2 (r s : Rule) (ah : Option Addr) (nh ch : Nat) (ab : Option Addr) (nb cb : Nat) (ah' : Option Addr) (nh' ch' : Nat) (ab' : Option Addr) (nb' cb' : Nat) (w : World) (hr : RuleV w r ah nh ch ab nb cb) (hs : RuleV w s ah' nh' ch' ab' nb' cb') :
    Calls Try.prog 11 #[.agg #[.string r.head.pred, .slice ah nh ch, .slice ab nb cb], .agg #[.string s.head.pred, .slice ah' nh' ch', .slice ab' nb' cb']] w
      fun e w' => ∃ a n cap, e = .returned (.tuple #[.slice a n cap, .bool (laid r s).2.isSome, .int .i64 (laid r s).1]) ∧ Ext w w' ∧ LaidOut r s w (.slice a n cap) w' := by
  refine (c_Laid r s ah nh ch ab nb cb ah' nh' ch' ab' nb' cb' w hr hs).mono fun e w' h => ?_
  obtain ⟨hb, h⟩ := h
  cases hl : (laid r s).2 with
  | none =>
    rw [hl] at h
    exact ⟨none, 0, 0, h, hb, ⟨_, _, _, rfl⟩, fun _ => rfl, fun l hl' => by rw [hl] at hl'; cases hl'⟩
  | some l =>
    rw [hl] at h
    obtain ⟨v, rfl, ho⟩ := h
    obtain ⟨a, cap, rfl, _⟩ := own_form ho
    exact ⟨a, _, cap, by rw [laid_zero hl]; rfl, hb, ⟨_, _, _, rfl⟩, fun hl' => by (rw [hl] at hl'; cases hl'), fun l' hl' => by rw [hl] at hl'; cases hl'; exact ho⟩
theorem c_Within (r s : Rule) (ah : Option Addr) (nh ch : Nat) (ab : Option Addr) (nb cb : Nat) (ah' : Option Addr) (nh' ch' : Nat) (ab' : Option Addr) (nb' cb' : Nat) (w : World) (hr : RuleV w r ah nh ch ab nb cb) (hs : RuleV w s ah' nh' ch' ab' nb' cb') :
    Calls Try.prog 16 #[.agg #[.string r.head.pred, .slice ah nh ch, .slice ab nb cb], .agg #[.string s.head.pred, .slice ah' nh' ch', .slice ab' nb' cb']] w fun e w' => e = .returned (.tuple #[.bool (laid r s).2.isSome, .int .i64 (laid r s).1]) ∧ Ext w w' := by
  have HR := Lib.hid hr
  have HS := Lib.hid hs
  clear hr hs
  go_enter Try.func16, Try.ntmps16
  go_wp2_with (go_at_call 11; (with_reducible refine (c_Laid2 r s _ _ _ _ _ _ _ _ _ _ _ _ _ (HR.out.keep (ext_alloc (ext_alloc (Below.refl _ _) _) _)) (HS.out.keep (ext_alloc (ext_alloc (Below.refl _ _) _) _))).mono ?_); rintro e w1 ⟨a, n, cap, rfl, hb, _⟩)
  go_ret2
  exact ⟨rfl, ext_after hb (ext_alloc (ext_alloc (Below.refl _ _) _) _)⟩
end Go.Proofs.Ytcphjfggjjonpaa
