/- The law TrieAll: whatever the rows and the order, it returns true, and the input reads as it did. No conditions. Begun from the frame that the kit's proof-skeleton writes. -/
import Derived.Test.YthjpfplebbnbpaaTAll
import Derived.Test.YthjpfplebbnbpaaTOpen
import Derived.Carry
namespace Go.Proofs.Ythjpfplebbnbpaa.trieAll
open Go.ChangeShapes Go.WideShapes Go.ChangeAt Go.RowKit Go.Deep
theorem own : ownKnob Try.prog.godebug = none := by kernel_rfl
theorem laidOut : laidOutB Try.prog = true := by kernel_rfl
set_option maxRecDepth 100000 in
theorem open_case {H : Type} {enc : TypeId × Value → H} {W : World} {base : Nat} {v : Value} {d : DataW H} {p : List MemPlace} (hval : Value.okWide Try.prog W .any base 25 v) (h : DataW.Trod enc Try.prog W 0 (fun _ => true) true 25 v d p) (hw : ∀ k ∈ d.weights Try.prog 25, k ≤ reachBytes) :
    ∃ (x : CaseV) (rows : List (List ByteArray)) (os : List Int), v = x.v ∧ CaseAt W x rows os := by
  unfold Value.okWide at hval
  rw [Try.underlying25] at hval
  obtain ⟨cs, rfl, _⟩ := hval
  obtain ⟨n, hn⟩ := h
  obtain ⟨x, rows, os, hc, hr⟩ := case_of hn hw
  refine ⟨x, rows, os, ?_, hr⟩
  have e : cs.toList = [.int .i64 x.ar, .slice x.ra x.rn x.rc, .slice x.oa x.on x.oc] := hc
  obtain ⟨l⟩ := cs
  cases e
  rfl
set_option maxRecDepth 100000 in
theorem lifted (os : Os) (started : os.Started) (H : Type) (enc : TypeId × Value → H) :
    ReturnsInHanded {} Try.checked os 3 .any (Rows.trieAllSpec.pre6 enc Try.prog Try.f3 Rows.trieAllRow.domain false) (Rows.trieAllSpec.post enc Try.prog Try.f3 false true false false) := by
  refine returnsInHanded_of_change_sized (C := Try.checked) own started (by kernel_rfl) Try.func3
    (ChangeSpec.witness6 (enc := enc) (C := Try.checked) false ⟨#[], #[.agg #[.int .i64 0, .slice none 0 0, .slice none 0 0]], []⟩ 8 (by kernel_rfl) (by kernel_rfl) (by kernel_rfl) (by kernel_rfl)) ?_
  intro W base args ds gs before hval0 hW hcnd hsz _
  have hW' := hW
  obtain ⟨p, q, hA0, hV, rfl, hfz, hnd⟩ := hW
  have hA : DataW.TrodAll enc Try.prog W 0 (fun _ => true) true Try.f3.params.toList args.toList ds p := hA0
  rw [Try.params3] at hA
  obtain ⟨v0, vs0, d0, ds0, p0, q0, hargs, rfl, rfl, h0, r0⟩ := trodAll_cons hA
  obtain ⟨rfl, rfl, rfl⟩ := trodAll_nil r0
  obtain rfl : args = #[v0] := by cases args; simp_all
  obtain ⟨rfl, rfl⟩ := trodVars_none hV
  rw [Try.params3] at hsz
  have hw0 : ∀ k ∈ d0.weights Try.prog 25, k ≤ reachBytes := fun k hk => by
    have := List.all_eq_true.1 hsz k (by simp [DataW.weightsEach]; exact hk)
    simpa using this
  obtain ⟨x, rows, ors, rfl, hr⟩ := open_case (hval0 0 _ _ (by rw [Try.params3]; rfl) rfl) h0 hw0
  refine (c_trieAll x rows ors W hr).mono fun e W' ⟨he, hb⟩ => ?_
  subst he
  have hlt : ∀ x ∈ p0 ++ [], x.block < W.heap.size := fun x hx => by simpa using hW'.lt x (by simpa using hx)
  exact ⟨_, rfl, post_of_ext (pa := p0 ++ []) (pv := []) hW' hb (fun _ _ _ => (trodAll_cons_mk (shut_bool Try.underlying4 _) trodAll_mk0))
    (fun sp hsp => (trodAll_cons_mk (WideElems.Trod_stays laidOut (by kernel_rfl) (of_decide_eq_true (by kernel_rfl)) h0 (fun x hx => hb.same (hlt x (by simp [hx]))) (fun x hx => hsp x (by simp [hx]))) trodAll_mk0)) (fun _ _ => rfl) rfl (ok_one (by kernel_rfl) rfl (okWide_bool_mk Try.underlying4 _))⟩
theorem over : Rows.trieAllRow.holds Try.pinned (OpenSpec.ofChange Rows.trieAllSpec) :=
  OpenClaim.holds_of_wide 3 Try.f3 rfl rfl rfl rfl rfl rfl rfl ⟨rfl, rfl, rfl, rfl, rfl⟩ rfl rfl rfl rfl rfl (by kernel_rfl) Try.func3 (by kernel_rfl)
    (of_decide_eq_true (by kernel_rfl)) (by unfold Func.isWrapper; first | (rw [if_pos (by decide +kernel)]; kernel_rfl) | (rw [if_neg (by decide +kernel)]; exact ⟨rfl, rfl⟩))
    (fun os started H enc _ => lifted os started H enc)
theorem proved : Rows.TrieAllSaid :=
  over
#print axioms proved
end Go.Proofs.Ythjpfplebbnbpaa.trieAll
