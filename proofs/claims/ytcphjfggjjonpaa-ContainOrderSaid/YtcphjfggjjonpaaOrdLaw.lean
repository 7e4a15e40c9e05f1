/- The law ContainOrder: the row. Begun from the frame that the kit's proof-skeleton writes. -/
import Derived.Test.YtcphjfggjjonpaaOrder
import Derived.Test.YtcphjfggjjonpaaOpen
import Derived.Carry
namespace Go.Proofs.Ytcphjfggjjonpaa.containOrder
open Go.ChangeShapes Go.WideShapes Go.ChangeAt Go.RowKit Go.Deep
theorem own : ownKnob Try.prog.godebug = none := by kernel_rfl
theorem laidOut : laidOutB Try.prog = true := by kernel_rfl
set_option maxRecDepth 100000 in
theorem open_rule {H : Type} {enc : TypeId × Value → H} {W : World} {base : Nat} {v : Value} {d : DataW H} {p : List MemPlace} (hval : Value.okWide Try.prog W .any base 27 v) (h : DataW.Trod enc Try.prog W 0 (fun _ => true) true 27 v d p) (hw : ∀ k ∈ d.weights Try.prog 27, k ≤ reachBytes) :
    ∃ (r : Rule) (ah : Option Addr) (nh ch : Nat) (ab : Option Addr) (nb cb : Nat), v = .agg #[.string r.head.pred, .slice ah nh ch, .slice ab nb cb] ∧ RuleV W r ah nh ch ab nb cb := by
  unfold Value.okWide at hval
  rw [Try.underlying27] at hval
  obtain ⟨cs, rfl, _⟩ := hval
  obtain ⟨n, hn⟩ := h
  obtain ⟨r, ah, nh, ch, ab, nb, cb, hc, hr⟩ := rule_of hn hw
  refine ⟨r, ah, nh, ch, ab, nb, cb, ?_, hr⟩
  have e : cs.toList = [.string r.head.pred, .slice ah nh ch, .slice ab nb cb] := hc
  obtain ⟨l⟩ := cs
  cases e
  rfl
set_option maxRecDepth 100000 in
theorem open_turns {H : Type} {enc : TypeId × Value → H} {W : World} {base : Nat} {v : Value} {d : DataW H} {p : List MemPlace} (hval : Value.okWide Try.prog W .any base 29 v) (h : DataW.Trod enc Try.prog W 0 (fun _ => true) true 29 v d p) :
    ∃ (a : Option Addr) (n cap : Nat) (xs : List Int), v = .slice a n cap ∧ IntsAt W a n xs := by
  obtain ⟨n, hn⟩ := h
  obtain ⟨a, len, cap, rfl⟩ := okWide_slice Try.underlying29 hval
  rcases open_ints Try.underlying29 Try.underlying3 (by kernel_rfl) hn with ⟨hc, _⟩ | ⟨a', len', cap', zs, hc, _, hl, hm, hz, _, hx, _⟩
  · cases (hc : [Value.slice a len cap] = _)
    exact ⟨none, 0, 0, [], rfl, ⟨Nat.zero_le _, rfl, by simp⟩⟩
  · cases (hc : [Value.slice a len cap] = _)
    simp only [if_true] at hz
    refine ⟨some a', len, cap, zs.take len, rfl, ⟨by omega, by simp; omega, fun i x hi => ?_⟩⟩
    have hi2 := (List.getElem?_eq_some_iff.1 hi).1
    simp at hi2
    have h1 := hx i (by omega)
    have h0 := spot_of (hx 0 (by omega))
    obtain ⟨b, o, sp⟩ := a'
    obtain rfl : sp = none := by
      cases sp with
      | none => rfl
      | some q => simp [Addr.add] at h0
    refine ⟨b, o, rfl, ?_⟩
    rw [Addr.add_lit] at h1
    rw [List.getElem?_take_of_lt (by omega), List.getElem?_eq_getElem (by omega)] at hi
    cases hi
    rw [Nat.mul_one]
    unfold intAt
    rw [h1, List.getD_eq_getElem?_getD, List.getElem?_eq_getElem (by omega)]; rfl
set_option maxRecDepth 100000 in
theorem lifted (os : Os) (started : os.Started) (H : Type) (enc : TypeId × Value → H) :
    ReturnsInHanded {} Try.checked os 4 .any (Rows.containOrderSpec.pre6 enc Try.prog Try.f4 Rows.containOrderRow.domain false) (Rows.containOrderSpec.post enc Try.prog Try.f4 false true false false) := by
  refine returnsInHanded_of_change_sized (C := Try.checked) own started (by kernel_rfl) Try.func4
    (ChangeSpec.witness6 (enc := enc) (C := Try.checked) false ⟨#[], #[.agg #[.string ⟨#[]⟩, .slice none 0 0, .slice none 0 0], .agg #[.string ⟨#[]⟩, .slice none 0 0, .slice none 0 0], .agg #[.string ⟨#[]⟩, .slice none 0 0, .slice none 0 0], .slice none 0 0], []⟩ 8 (by kernel_rfl) (by kernel_rfl) (by kernel_rfl) (by kernel_rfl)) ?_
  intro W base args ds gs before hval0 hW hcnd hsz _
  have hW' := hW
  obtain ⟨p, q, hA0, hV, rfl, hfz, hnd⟩ := hW
  have hA : DataW.TrodAll enc Try.prog W 0 (fun _ => true) true Try.f4.params.toList args.toList ds p := hA0
  rw [Try.params4] at hA
  obtain ⟨v0, vs0, d0, ds0, p0, q0, hargs, rfl, rfl, h0, r0⟩ := trodAll_cons hA
  obtain ⟨v1, vs1, d1, ds1, p1, q1, rfl, rfl, rfl, h1, r1⟩ := trodAll_cons r0
  obtain ⟨v2, vs2, d2, ds2, p2, q2, rfl, rfl, rfl, h2, r2⟩ := trodAll_cons r1
  obtain ⟨v3, vs3, d3, ds3, p3, q3, rfl, rfl, rfl, h3, r3⟩ := trodAll_cons r2
  obtain ⟨rfl, rfl, rfl⟩ := trodAll_nil r3
  obtain rfl : args = #[v0, v1, v2, v3] := by cases args; simp_all
  obtain ⟨rfl, rfl⟩ := trodVars_none hV
  rw [Try.params4] at hsz
  have hw0 : ∀ k ∈ d0.weights Try.prog 27, k ≤ reachBytes := fun k hk => by
    have := List.all_eq_true.1 hsz k (by simp [DataW.weightsEach]; exact .inl hk)
    simpa using this
  have hw1 : ∀ k ∈ d1.weights Try.prog 27, k ≤ reachBytes := fun k hk => by
    have := List.all_eq_true.1 hsz k (by simp [DataW.weightsEach]; exact .inr (.inl hk))
    simpa using this
  have hw2 : ∀ k ∈ d2.weights Try.prog 27, k ≤ reachBytes := fun k hk => by
    have := List.all_eq_true.1 hsz k (by simp [DataW.weightsEach]; exact .inr (.inr (.inl hk)))
    simpa using this
  obtain ⟨r, ah, nh, ch, ab, nb, cb, rfl, hr⟩ := open_rule (hval0 0 _ _ (by rw [Try.params4]; rfl) rfl) h0 hw0
  obtain ⟨s, ah', nh', ch', ab', nb', cb', rfl, hs⟩ := open_rule (hval0 1 _ _ (by rw [Try.params4]; rfl) rfl) h1 hw1
  obtain ⟨t, ah2, nh2, ch2, ab2, nb2, cb2, rfl, ht⟩ := open_rule (hval0 2 _ _ (by rw [Try.params4]; rfl) rfl) h2 hw2
  obtain ⟨at_, nt, ct, xs, rfl, hx⟩ := open_turns (hval0 3 _ _ (by rw [Try.params4]; rfl) rfl) h3
  refine (c_order r s t xs ah nh ch ab nb cb ah' nh' ch' ab' nb' cb' ah2 nh2 ch2 ab2 nb2 cb2 at_ nt ct W hr hs ht hx).mono fun e W' ⟨he, hb⟩ => ?_
  subst he
  have hlt : ∀ x ∈ p0 ++ (p1 ++ (p2 ++ (p3 ++ []))), x.block < W.heap.size := fun x hx => by simpa using hW'.lt x (by simpa using hx)
  exact ⟨_, rfl, post_of_ext (pa := p0 ++ (p1 ++ (p2 ++ (p3 ++ [])))) (pv := []) hW' hb (fun _ _ _ => (trodAll_cons_mk (shut_bool Try.underlying4 _) trodAll_mk0))
    (fun sp hsp => (trodAll_cons_mk (WideElems.Trod_stays laidOut (by kernel_rfl) (of_decide_eq_true (by kernel_rfl)) h0 (fun x hx => hb.same (hlt x (by simp [hx]))) (fun x hx => hsp x (by simp [hx])))
      (trodAll_cons_mk (WideElems.Trod_stays laidOut (by kernel_rfl) (of_decide_eq_true (by kernel_rfl)) h1 (fun x hx => hb.same (hlt x (by simp [hx]))) (fun x hx => hsp x (by simp [hx])))
      (trodAll_cons_mk (WideElems.Trod_stays laidOut (by kernel_rfl) (of_decide_eq_true (by kernel_rfl)) h2 (fun x hx => hb.same (hlt x (by simp [hx]))) (fun x hx => hsp x (by simp [hx])))
      (trodAll_cons_mk (WideElems.Trod_stays laidOut (by kernel_rfl) (of_decide_eq_true (by kernel_rfl)) h3 (fun x hx => hb.same (hlt x (by simp [hx]))) (fun x hx => hsp x (by simp [hx]))) trodAll_mk0))))) (fun _ _ => rfl) rfl (ok_one (by kernel_rfl) rfl (okWide_bool_mk Try.underlying4 _))⟩
theorem over : Rows.containOrderRow.holds Try.pinned (OpenSpec.ofChange Rows.containOrderSpec) :=
  OpenClaim.holds_of_wide 4 Try.f4 rfl rfl rfl rfl rfl rfl rfl ⟨rfl, rfl, rfl, rfl, rfl⟩ rfl rfl rfl rfl rfl (by kernel_rfl) Try.func4 (by kernel_rfl)
    (of_decide_eq_true (by kernel_rfl)) (by unfold Func.isWrapper; first | (rw [if_pos (by decide +kernel)]; kernel_rfl) | (rw [if_neg (by decide +kernel)]; exact ⟨rfl, rfl⟩))
    (fun os started H enc _ => lifted os started H enc)
theorem proved : Rows.ContainOrderSaid :=
  over
#print axioms proved
end Go.Proofs.Ytcphjfggjjonpaa.containOrder
