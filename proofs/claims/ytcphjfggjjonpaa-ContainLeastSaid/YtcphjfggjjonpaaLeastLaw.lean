/- The law ContainLeast: the row. Begun from the frame that the kit's proof-skeleton writes. -/
import Derived.Test.YtcphjfggjjonpaaLeast
import Derived.Test.YtcphjfggjjonpaaOpen
import Derived.Carry
namespace Go.Proofs.Ytcphjfggjjonpaa.containLeast
open Go.ChangeShapes Go.WideShapes Go.ChangeAt Go.RowKit Go.Deep
theorem own : ownKnob Try.prog.godebug = none := by kernel_rfl
theorem laidOut : laidOutB Try.prog = true := by kernel_rfl
set_option maxRecDepth 100000 in
theorem open_rule {H : Type} {enc : TypeId × Value → H} {W : World} {base : Nat} {v : Value} {d : DataW H} {p : List MemPlace} (hval : Value.okWide Try.prog W .any base 27 v) (h : DataW.Trod enc Try.prog W 0 (fun _ => true) true 27 v d p) (hw : ∀ k ∈ d.weights Try.prog 27, k ≤ reachBytes) :
    ∃ (r : Rule) (ah : Option Addr) (nh ch : Nat) (ab : Option Addr) (nb cb : Nat), v = .agg #[.string r.head.pred, .slice ah nh ch, .slice ab nb cb] ∧ RuleV W r ah nh ch ab nb cb := by
  unfold Value.okWide at hval
  rw [Try.underlying27] at hval
  obtain ⟨cs, rfl, _⟩ := hval
  obtain ⟨n, hn⟩ := h
  obtain ⟨r, ah, nh, ch, ab, nb, cb, hc, hr⟩ := rule_of hn hw
  refine ⟨r, ah, nh, ch, ab, nb, cb, ?_, hr⟩
  have e : cs.toList = [.string r.head.pred, .slice ah nh ch, .slice ab nb cb] := hc
  obtain ⟨l⟩ := cs
  cases e
  rfl
set_option maxRecDepth 100000 in
theorem lifted (os : Os) (started : os.Started) (H : Type) (enc : TypeId × Value → H) :
    ReturnsInHanded {} Try.checked os 7 .any (Rows.containLeastSpec.pre6 enc Try.prog Try.f7 Rows.containLeastRow.domain false) (Rows.containLeastSpec.post enc Try.prog Try.f7 false true false false) := by
  refine returnsInHanded_of_change_sized (C := Try.checked) own started (by kernel_rfl) Try.func7
    (ChangeSpec.witness6 (enc := enc) (C := Try.checked) false ⟨#[], #[.agg #[.string ⟨#[]⟩, .slice none 0 0, .slice none 0 0]], []⟩ 8 (by kernel_rfl) (by kernel_rfl) (by kernel_rfl) (by kernel_rfl)) ?_
  intro W base args ds gs before hval0 hW hcnd hsz _
  have hW' := hW
  obtain ⟨p, q, hA0, hV, rfl, hfz, hnd⟩ := hW
  have hA : DataW.TrodAll enc Try.prog W 0 (fun _ => true) true Try.f7.params.toList args.toList ds p := hA0
  rw [Try.params7] at hA
  obtain ⟨v0, vs0, d0, ds0, p0, q0, hargs, rfl, rfl, h0, r0⟩ := trodAll_cons hA
  obtain ⟨rfl, rfl, rfl⟩ := trodAll_nil r0
  obtain rfl : args = #[v0] := by cases args; simp_all
  obtain ⟨rfl, rfl⟩ := trodVars_none hV
  rw [Try.params7] at hsz
  have hw0 : ∀ k ∈ d0.weights Try.prog 27, k ≤ reachBytes := fun k hk => by
    have := List.all_eq_true.1 hsz k (by simp [DataW.weightsEach]; exact hk)
    simpa using this
  obtain ⟨r, ah, nh, ch, ab, nb, cb, rfl, hr⟩ := open_rule (hval0 0 _ _ (by rw [Try.params7]; rfl) rfl) h0 hw0
  refine (c_least r ah nh ch ab nb cb W hr).mono fun e W' ⟨he, hb⟩ => ?_
  subst he
  have hlt : ∀ x ∈ p0 ++ [], x.block < W.heap.size := fun x hx => by simpa using hW'.lt x (by simpa using hx)
  exact ⟨_, rfl, post_of_ext (pa := p0 ++ []) (pv := []) hW' hb (fun _ _ _ => (trodAll_cons_mk (shut_bool Try.underlying4 _) trodAll_mk0))
    (fun sp hsp => (trodAll_cons_mk (WideElems.Trod_stays laidOut (by kernel_rfl) (of_decide_eq_true (by kernel_rfl)) h0 (fun x hx => hb.same (hlt x (by simp [hx]))) (fun x hx => hsp x (by simp [hx]))) trodAll_mk0)) (fun _ _ => rfl) rfl (ok_one (by kernel_rfl) rfl (okWide_bool_mk Try.underlying4 _))⟩
theorem over : Rows.containLeastRow.holds Try.pinned (OpenSpec.ofChange Rows.containLeastSpec) :=
  OpenClaim.holds_of_wide 7 Try.f7 rfl rfl rfl rfl rfl rfl rfl ⟨rfl, rfl, rfl, rfl, rfl⟩ rfl rfl rfl rfl rfl (by kernel_rfl) Try.func7 (by kernel_rfl)
    (of_decide_eq_true (by kernel_rfl)) (by unfold Func.isWrapper; first | (rw [if_pos (by decide +kernel)]; kernel_rfl) | (rw [if_neg (by decide +kernel)]; exact ⟨rfl, rfl⟩))
    (fun os started H enc _ => lifted os started H enc)
theorem proved : Rows.ContainLeastSaid :=
  over
#print axioms proved
end Go.Proofs.Ytcphjfggjjonpaa.containLeast
