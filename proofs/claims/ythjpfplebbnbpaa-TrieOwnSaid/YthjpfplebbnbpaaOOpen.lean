/- The scripts and texts that come in, opened. -/
import Derived.Test.YthjpfplebbnbpaaTOpen
import Derived.Test.YthjpfplebbnbpaaWkd
namespace Go.Proofs.Ythjpfplebbnbpaa
open Go.ChangeShapes Go.WideShapes Go.ChangeAt Go.RowKit Go.Deep
theorem cells_op : Try.prog.cellsOf 79 = 3 := by kernel_rfl
section
variable {H : Type} {enc : TypeId × Value → H}
set_option maxRecDepth 20000 in
theorem op_of {W : World} {base : Nat} {n : Nat} {cs : List Value} {x : DataW H × List MemPlace} (h : DataW.trod enc Try.prog W base (fun _ => true) true n 79 cs = some x) :
    ∃ o : OpM, cs = [.int .i64 o.kind, .int .i64 o.which, .string o.text] := by
  obtain ⟨y0, y1, y2, m, rfl, hl, u0, u1, u2⟩ := trod_struct3 Try.underlying79 h
  rw [cells_op] at hl
  obtain ⟨c0, c1, c2, rfl⟩ := three_of hl
  simp only [cells_int, cells_str, List.drop, List.take] at u0 u1 u2
  obtain ⟨k, hc, rfl, _⟩ := DataW.trod_int Try.underlying3 u0
  obtain ⟨k1, hc1, rfl, _⟩ := DataW.trod_int Try.underlying3 u1
  obtain ⟨t, hc2, _, _⟩ := DataW.trod_string Try.underlying9 u2
  cases hc
  cases hc1
  cases hc2
  exact ⟨⟨k, k1, t⟩, rfl⟩
set_option maxRecDepth 20000 in
theorem ops_of {W : World} {base : Nat} {n : Nat} {cs : List Value} {x : DataW H × List MemPlace} (h : DataW.trod enc Try.prog W base (fun _ => true) true n 39 cs = some x) (hw : ∀ k ∈ x.1.weights Try.prog 39, k ≤ reachBytes) :
    ∃ (a : Option Addr) (len cap : Nat) (os : List OpM), cs = [.slice a len cap] ∧ OpsAt W a len os := by
  rcases open_slice Try.underlying39 h with ⟨rfl, rfl⟩ | ⟨a, len, cap, m, n', D, Pl, rfl, hb, hl, hm, hmm, rfl, hx⟩
  · exact ⟨none, 0, 0, [], rfl, ⟨Nat.zero_le _, rfl, by simp⟩⟩
  · simp only [if_true] at hmm
    subst hmm
    rw [cells_op] at hx
    rw [DataW.weights, Try.underlying39] at hw
    haveI : Inhabited OpM := ⟨⟨0, 0, ⟨#[]⟩⟩⟩
    obtain ⟨T, hT⟩ := choose_lt (α := OpM) (n := len) (p := fun i o => W.cells? base (a.add (i * 3)) 3 = some [.int .i64 o.kind, .int .i64 o.which, .string o.text]) (fun i hi => by
      obtain ⟨cs', h1, h2⟩ := hx i (by omega)
      obtain ⟨o, rfl⟩ := op_of h2
      exact ⟨o, h1⟩)
    refine ⟨some a, len, m, (List.range len).map T, rfl, ⟨?_, by simp, fun i t ht => ?_⟩⟩
    · have := hw _ List.mem_cons_self
      simp only [List.length_map, List.length_range] at this
      rw [show Try.prog.bytesOf 79 = 32 by kernel_rfl] at this
      unfold reachBytes at this
      unfold maxLen
      omega
    · obtain ⟨hi, rfl⟩ : i < len ∧ T i = t := by
        have hi := (List.getElem?_eq_some_iff.1 ht).1
        simp at hi
        refine ⟨hi, ?_⟩
        simpa [hi] using ht
      have hs : a = ⟨a.block, a.off, none⟩ := by
        have h0 := (World.cells?_some (hT 0 (by omega))).2.2 0 (by decide)
        rw [Nat.zero_mul] at h0
        exact spot_of h0
      have hc := elem_cells hs (hT i hi)
      exact ⟨a.block, a.off, congrArg some hs, hc 0 (by decide), hc 1 (by decide), hc 2 (by decide)⟩
set_option maxRecDepth 100000 in
theorem open_case {W : World} {base : Nat} {v : Value} {d : DataW H} {p : List MemPlace} (hval : Value.okWide Try.prog W .any base 25 v) (h : DataW.Trod enc Try.prog W 0 (fun _ => true) true 25 v d p) (hw : ∀ k ∈ d.weights Try.prog 25, k ≤ reachBytes) :
    ∃ (x : CaseV) (rows : List (List ByteArray)) (os : List Int), v = x.v ∧ CaseAt W x rows os := by
  unfold Value.okWide at hval
  rw [Try.underlying25] at hval
  obtain ⟨cs, rfl, _⟩ := hval
  obtain ⟨n, hn⟩ := h
  obtain ⟨x, rows, os, hc, hr⟩ := case_of hn hw
  refine ⟨x, rows, os, ?_, hr⟩
  have e : cs.toList = [.int .i64 x.ar, .slice x.ra x.rn x.rc, .slice x.oa x.on x.oc] := hc
  obtain ⟨l⟩ := cs
  cases e
  rfl
set_option maxRecDepth 100000 in
theorem open_ops {W : World} {base : Nat} {v : Value} {d : DataW H} {p : List MemPlace} (hval : Value.okWide Try.prog W .any base 39 v) (h : DataW.Trod enc Try.prog W 0 (fun _ => true) true 39 v d p) (hw : ∀ k ∈ d.weights Try.prog 39, k ≤ reachBytes) :
    ∃ (a : Option Addr) (n cap : Nat) (os : List OpM), v = .slice a n cap ∧ OpsAt W a n os := by
  obtain ⟨n, hn⟩ := h
  obtain ⟨a, len, cap, rfl⟩ := okWide_slice Try.underlying39 hval
  obtain ⟨a', len', cap', os, hc, ho⟩ := ops_of hn hw
  cases (hc : [Value.slice a len cap] = _)
  exact ⟨_, _, _, os, rfl, ho⟩
end
end Go.Proofs.Ythjpfplebbnbpaa
