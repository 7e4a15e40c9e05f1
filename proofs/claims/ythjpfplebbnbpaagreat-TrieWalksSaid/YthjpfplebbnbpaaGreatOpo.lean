/- Scripts in memory. The scripts that come in, opened. -/
import Derived.Test.YthjpfplebbnbpaaGreatMem
import Derived.Test.YthjpfplebbnbpaaGreatOpz
namespace Go.Proofs.YthjpfplebbnbpaaGreat
open Go.ChangeShapes Go.WideShapes Go.ChangeAt Go.RowKit
structure OpM where
  kind : Int
  which : Int
  text : ByteArray
def OpM.p (o : OpM) : Int × ByteArray := (o.kind, o.text)
def opAt (w : World) (b o : Nat) (x : OpM) : Prop := w.cell? ⟨b, o, none⟩ = some (.int .i64 x.kind) ∧ w.cell? ⟨b, o + 1, none⟩ = some (.int .i64 x.which) ∧ w.cell? ⟨b, o + 2, none⟩ = some (.string x.text)
theorem opAt.keep {W w : World} (hb : Ext W w) {b o : Nat} {x : OpM} (h : opAt W b o x) : opAt w b o x := ⟨YthjpfplebbnbpaaGreat.keep hb h.1, YthjpfplebbnbpaaGreat.keep hb h.2.1, YthjpfplebbnbpaaGreat.keep hb h.2.2⟩
def OpsAt (w : World) (a : Option Addr) (n : Nat) (ops : List OpM) : Prop := n ≤ maxLen ∧ SliceAt opAt 3 w a n ops
theorem OpsAt.keep {W w : World} (hb : Ext W w) {a : Option Addr} {n : Nat} {ops : List OpM} (h : OpsAt W a n ops) : OpsAt w a n ops := ⟨h.1, h.2.keep fun _ _ _ => opAt.keep hb⟩
end Go.Proofs.YthjpfplebbnbpaaGreat
namespace Go.Proofs.YthjpfplebbnbpaaGreat
open Go.ChangeShapes Go.WideShapes Go.ChangeAt Go.RowKit Go.Deep
theorem cells_op : Tryz.prog.cellsOf 42 = 3 := by kernel_rfl
section
variable {H : Type} {enc : TypeId × Value → H}
set_option maxRecDepth 20000 in
theorem op_of {W : World} {base : Nat} {n : Nat} {cs : List Value} {x : DataW H × List MemPlace} (h : DataW.trod enc Tryz.prog W base (fun _ => true) true n 42 cs = some x) :
    ∃ o : OpM, cs = [.int .i64 o.kind, .int .i64 o.which, .string o.text] := by
  obtain ⟨y0, y1, y2, m, rfl, hl, u0, u1, u2⟩ := trod_struct3 Tryz.underlying42 h
  rw [cells_op] at hl
  obtain ⟨c0, c1, c2, rfl⟩ := three_of hl
  simp only [cells_int, cells_str, List.drop, List.take] at u0 u1 u2
  obtain ⟨k, hc, rfl, _⟩ := DataW.trod_int Tryz.underlying3 u0
  obtain ⟨k1, hc1, rfl, _⟩ := DataW.trod_int Tryz.underlying3 u1
  obtain ⟨t, hc2, _, _⟩ := DataW.trod_string Tryz.underlying9 u2
  cases hc
  cases hc1
  cases hc2
  exact ⟨⟨k, k1, t⟩, rfl⟩
set_option maxRecDepth 20000 in
theorem ops_of {W : World} {base : Nat} {n : Nat} {cs : List Value} {x : DataW H × List MemPlace} (h : DataW.trod enc Tryz.prog W base (fun _ => true) true n 26 cs = some x) (hw : ∀ k ∈ x.1.weights Tryz.prog 26, k ≤ reachBytes) :
    ∃ (a : Option Addr) (len cap : Nat) (os : List OpM), cs = [.slice a len cap] ∧ OpsAt W a len os := by
  rcases open_slice Tryz.underlying26 h with ⟨rfl, rfl⟩ | ⟨a, len, cap, m, n', D, Pl, rfl, hb, hl, hm, hmm, rfl, hx⟩
  · exact ⟨none, 0, 0, [], rfl, ⟨Nat.zero_le _, rfl, by simp⟩⟩
  · simp only [if_true] at hmm
    subst hmm
    rw [cells_op] at hx
    rw [DataW.weights, Tryz.underlying26] at hw
    haveI : Inhabited OpM := ⟨⟨0, 0, ⟨#[]⟩⟩⟩
    obtain ⟨T, hT⟩ := choose_lt (α := OpM) (n := len) (p := fun i o => W.cells? base (a.add (i * 3)) 3 = some [.int .i64 o.kind, .int .i64 o.which, .string o.text]) (fun i hi => by
      obtain ⟨cs', h1, h2⟩ := hx i (by omega)
      obtain ⟨o, rfl⟩ := op_of h2
      exact ⟨o, h1⟩)
    refine ⟨some a, len, m, (List.range len).map T, rfl, ⟨?_, by simp, fun i t ht => ?_⟩⟩
    · have := hw _ List.mem_cons_self
      simp only [List.length_map, List.length_range] at this
      rw [show Tryz.prog.bytesOf 42 = 32 by kernel_rfl] at this
      unfold reachBytes at this
      unfold maxLen
      omega
    · obtain ⟨hi, rfl⟩ : i < len ∧ T i = t := by
        have hi := (List.getElem?_eq_some_iff.1 ht).1
        simp at hi
        refine ⟨hi, ?_⟩
        simpa [hi] using ht
      have hs : a = ⟨a.block, a.off, none⟩ := by
        have h0 := (World.cells?_some (hT 0 (by omega))).2.2 0 (by decide)
        rw [Nat.zero_mul] at h0
        exact spot_of h0
      have hc := elem_cells hs (hT i hi)
      exact ⟨a.block, a.off, congrArg some hs, hc 0 (by decide), hc 1 (by decide), hc 2 (by decide)⟩
set_option maxRecDepth 100000 in
theorem open_ops {W : World} {base : Nat} {v : Value} {d : DataW H} {p : List MemPlace} (hval : Value.okWide Tryz.prog W .any base 26 v) (h : DataW.Trod enc Tryz.prog W 0 (fun _ => true) true 26 v d p) (hw : ∀ k ∈ d.weights Tryz.prog 26, k ≤ reachBytes) :
    ∃ (a : Option Addr) (n cap : Nat) (os : List OpM), v = .slice a n cap ∧ OpsAt W a n os := by
  obtain ⟨n, hn⟩ := h
  obtain ⟨a, len, cap, rfl⟩ := okWide_slice Tryz.underlying26 hval
  obtain ⟨a', len', cap', os, hc, ho⟩ := ops_of hn hw
  cases (hc : [Value.slice a len cap] = _)
  exact ⟨_, _, _, os, rfl, ho⟩
end
end Go.Proofs.YthjpfplebbnbpaaGreat
