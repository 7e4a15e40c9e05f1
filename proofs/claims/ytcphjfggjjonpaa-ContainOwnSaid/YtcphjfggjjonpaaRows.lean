/-
  No cell of these rows narrows 'for every input' (looked for: loops, veiled, ifaces, maps, wideKeys, modest, calm, conditions, laid).
  DERIVED. THE GIVEN ROWS OF THIS SEAT. 7 by the template 'for every input the law returns true; each argument reads behind the call as it read before'; 0 by the template 'total and deterministic' (their statements: YtcphjfggjjonpaaTotals.lean).
  GIVEN WITH THE SEED: the statements are not yours to turn. If you find one false, say at which input.
  Laid BY PROGRAM, IN A SANDBOX (cutbox-rows.mjs): the forced cells as the released guide's own fill.sh prints them over the translation 7e850c1019435009… (all of the seat's roots in one cut). By AI agents, Wed Nov 11 2026. No macro, syntax, notation, axiom, sorry.
-/
import Derived.Test.YtcphjfggjjonpaaChecked
import GoSem.Claim
import GoSem.ClaimJoined
import GoSem.ClaimMapViews
import Derived.JoinedTies
import Derived.KernelRfl
namespace Go.Proofs.Ytcphjfggjjonpaa
/- THE CELL 'sum', in the pinned program and in every row, IS THE sha256 OF THE DUMP (.gsa) THAT YtcphjfggjjonpaaProg.lean LOADS. Nothing in Lean hashes anything: it is a label: what it is worth is what the hold of that sum in a sandbox is worth. -/
noncomputable def Try.pinned : Pinned := { name := "ytcphjfggjjonpaa", sum := "7e850c1019435009bd4f7137227d0999f953c34c9d3d1491a838a79f02036bbb", checked := Try.checked }
namespace Rows
def none {H : Type} : Left H := { results := [], args := [] }

/-- 'sibyllaw24.ContainWitness': WHATEVER THE INPUT: true; the input reads as it did. -/
def containWitnessSpec : ChangeSpec := { name := "containWitness", fn := fun _ => fun
  | [d1, d2] => { results := [.lit (.bool true)], args := [d1, d2] }
  | _ => none }
def containWitnessRow : OpenClaim := { program := "ytcphjfggjjonpaa", sum := "7e850c1019435009bd4f7137227d0999f953c34c9d3d1491a838a79f02036bbb", func := "sibyl/sibyllaw24.ContainWitness", spec := "containWitness", unfollowed := true, recurses := true, apart := false }
def ContainWitnessSaid : Prop := containWitnessRow.holds Try.pinned (OpenSpec.ofChange containWitnessSpec)

/-- ITS FALSE NEIGHBOUR: 'it returns false'. Refute it at one input. -/
def containWitnessWrong : ChangeSpec := { name := "containWitness", fn := fun _ => fun
  | [d1, d2] => { results := [.lit (.bool false)], args := [d1, d2] }
  | _ => none }
def ContainWitnessWrongFalsely : Prop := containWitnessRow.holds Try.pinned (OpenSpec.ofChange containWitnessWrong)

/-- 'sibyllaw24.ContainOrder': WHATEVER THE INPUT: true; the input reads as it did. -/
def containOrderSpec : ChangeSpec := { name := "containOrder", fn := fun _ => fun
  | [d1, d2, d3, d4] => { results := [.lit (.bool true)], args := [d1, d2, d3, d4] }
  | _ => none }
def containOrderRow : OpenClaim := { program := "ytcphjfggjjonpaa", sum := "7e850c1019435009bd4f7137227d0999f953c34c9d3d1491a838a79f02036bbb", func := "sibyl/sibyllaw24.ContainOrder", spec := "containOrder", unfollowed := true, recurses := true, apart := false }
def ContainOrderSaid : Prop := containOrderRow.holds Try.pinned (OpenSpec.ofChange containOrderSpec)

/-- ITS FALSE NEIGHBOUR: 'it returns false'. Refute it at one input. -/
def containOrderWrong : ChangeSpec := { name := "containOrder", fn := fun _ => fun
  | [d1, d2, d3, d4] => { results := [.lit (.bool false)], args := [d1, d2, d3, d4] }
  | _ => none }
def ContainOrderWrongFalsely : Prop := containOrderRow.holds Try.pinned (OpenSpec.ofChange containOrderWrong)

/-- 'sibyllaw24.ContainLays': WHATEVER THE INPUT: true; the input reads as it did. -/
def containLaysSpec : ChangeSpec := { name := "containLays", fn := fun _ => fun
  | [d1, d2] => { results := [.lit (.bool true)], args := [d1, d2] }
  | _ => none }
def containLaysRow : OpenClaim := { program := "ytcphjfggjjonpaa", sum := "7e850c1019435009bd4f7137227d0999f953c34c9d3d1491a838a79f02036bbb", func := "sibyl/sibyllaw24.ContainLays", spec := "containLays", unfollowed := true, recurses := true, apart := false }
def ContainLaysSaid : Prop := containLaysRow.holds Try.pinned (OpenSpec.ofChange containLaysSpec)

/-- ITS FALSE NEIGHBOUR: 'it returns false'. Refute it at one input. -/
def containLaysWrong : ChangeSpec := { name := "containLays", fn := fun _ => fun
  | [d1, d2] => { results := [.lit (.bool false)], args := [d1, d2] }
  | _ => none }
def ContainLaysWrongFalsely : Prop := containLaysRow.holds Try.pinned (OpenSpec.ofChange containLaysWrong)

/-- 'sibyllaw24.ContainPrunes': WHATEVER THE INPUT: true; the input reads as it did. -/
def containPrunesSpec : ChangeSpec := { name := "containPrunes", fn := fun _ => fun
  | [d] => { results := [.lit (.bool true)], args := [d] }
  | _ => none }
def containPrunesRow : OpenClaim := { program := "ytcphjfggjjonpaa", sum := "7e850c1019435009bd4f7137227d0999f953c34c9d3d1491a838a79f02036bbb", func := "sibyl/sibyllaw24.ContainPrunes", spec := "containPrunes", unfollowed := true, recurses := true, apart := false }
def ContainPrunesSaid : Prop := containPrunesRow.holds Try.pinned (OpenSpec.ofChange containPrunesSpec)

/-- ITS FALSE NEIGHBOUR: 'it returns false'. Refute it at one input. -/
def containPrunesWrong : ChangeSpec := { name := "containPrunes", fn := fun _ => fun
  | [d] => { results := [.lit (.bool false)], args := [d] }
  | _ => none }
def ContainPrunesWrongFalsely : Prop := containPrunesRow.holds Try.pinned (OpenSpec.ofChange containPrunesWrong)

/-- 'sibyllaw24.ContainLeast': WHATEVER THE INPUT: true; the input reads as it did. -/
def containLeastSpec : ChangeSpec := { name := "containLeast", fn := fun _ => fun
  | [d] => { results := [.lit (.bool true)], args := [d] }
  | _ => none }
def containLeastRow : OpenClaim := { program := "ytcphjfggjjonpaa", sum := "7e850c1019435009bd4f7137227d0999f953c34c9d3d1491a838a79f02036bbb", func := "sibyl/sibyllaw24.ContainLeast", spec := "containLeast", unfollowed := true, recurses := true, apart := false }
def ContainLeastSaid : Prop := containLeastRow.holds Try.pinned (OpenSpec.ofChange containLeastSpec)

/-- ITS FALSE NEIGHBOUR: 'it returns false'. Refute it at one input. -/
def containLeastWrong : ChangeSpec := { name := "containLeast", fn := fun _ => fun
  | [d] => { results := [.lit (.bool false)], args := [d] }
  | _ => none }
def ContainLeastWrongFalsely : Prop := containLeastRow.holds Try.pinned (OpenSpec.ofChange containLeastWrong)

/-- 'sibyllaw24.ContainCore': WHATEVER THE INPUT: true; the input reads as it did. -/
def containCoreSpec : ChangeSpec := { name := "containCore", fn := fun _ => fun
  | [d1, d2] => { results := [.lit (.bool true)], args := [d1, d2] }
  | _ => none }
def containCoreRow : OpenClaim := { program := "ytcphjfggjjonpaa", sum := "7e850c1019435009bd4f7137227d0999f953c34c9d3d1491a838a79f02036bbb", func := "sibyl/sibyllaw24.ContainCore", spec := "containCore", unfollowed := true, recurses := true, apart := false }
def ContainCoreSaid : Prop := containCoreRow.holds Try.pinned (OpenSpec.ofChange containCoreSpec)

/-- ITS FALSE NEIGHBOUR: 'it returns false'. Refute it at one input. -/
def containCoreWrong : ChangeSpec := { name := "containCore", fn := fun _ => fun
  | [d1, d2] => { results := [.lit (.bool false)], args := [d1, d2] }
  | _ => none }
def ContainCoreWrongFalsely : Prop := containCoreRow.holds Try.pinned (OpenSpec.ofChange containCoreWrong)

/-- 'sibyllaw24.ContainOwn': WHATEVER THE INPUT: true; the input reads as it did. -/
def containOwnSpec : ChangeSpec := { name := "containOwn", fn := fun _ => fun
  | [d1, d2, d3] => { results := [.lit (.bool true)], args := [d1, d2, d3] }
  | _ => none }
def containOwnRow : OpenClaim := { program := "ytcphjfggjjonpaa", sum := "7e850c1019435009bd4f7137227d0999f953c34c9d3d1491a838a79f02036bbb", func := "sibyl/sibyllaw24.ContainOwn", spec := "containOwn", unfollowed := true, recurses := true, apart := false }
def ContainOwnSaid : Prop := containOwnRow.holds Try.pinned (OpenSpec.ofChange containOwnSpec)

/-- ITS FALSE NEIGHBOUR: 'it returns false'. Refute it at one input. -/
def containOwnWrong : ChangeSpec := { name := "containOwn", fn := fun _ => fun
  | [d1, d2, d3] => { results := [.lit (.bool false)], args := [d1, d2, d3] }
  | _ => none }
def ContainOwnWrongFalsely : Prop := containOwnRow.holds Try.pinned (OpenSpec.ofChange containOwnWrong)

/- THE SECOND FORM. 'bulk': how many values and letters a reading holds, each counted each time it is reached (what is shared counts as often as it is met; a slice's spare places count too). A statement '..UptoSaid' is the law's where the arguments, and the package variables that the reading takes, are together of bulk at most 1048576: NARROWER than '..Said'. Prove '..Said' where nothing that the law and all that it calls make is longer than what came in: it says more and counts as full. Else prove '..UptoSaid'. A law counts once. -/
mutual
def uptoBulk {H : Type} : DataW H → Nat
  | .lit (.string bytes) => bytes.length + 1
  | .lit _ => 1
  | .nil => 1
  | .ptr d => uptoBulk d + 1
  | .slice elems spare => uptoBulkAll elems + uptoBulkAll spare + 1
  | .agg parts => uptoBulkAll parts + 1
  | .iface _ d => uptoBulk d + 1
  | .map entries => uptoBulkEntries entries + 1
  | .held _ => 1
def uptoBulkAll {H : Type} : List (DataW H) → Nat
  | [] => 0
  | d :: r => uptoBulk d + uptoBulkAll r
def uptoBulkEntries {H : Type} : List (Lit × DataW H) → Nat
  | [] => 0
  | x :: r => uptoBulkEntry x + uptoBulkEntries r
def uptoBulkEntry {H : Type} : Lit × DataW H → Nat
  | (.string bytes, d) => bytes.length + uptoBulk d + 1
  | (_, d) => uptoBulk d + 1
 end
def uptoSmall : (H : Type) → List (DataW H) → Bool := fun _ ds => decide (uptoBulkAll ds ≤ 1048576)
def OpenSpec.upto (s : _root_.Go.ChangeSpec) : _root_.Go.OpenSpec := { _root_.Go.OpenSpec.ofChange s with cond := some uptoSmall }

/-- 'sibyllaw24.ContainWitness', WHERE WHAT IT READS IS OF BULK AT MOST 1048576: true; the input reads as it did. -/
def containWitnessUptoRow : OpenClaim := { program := "ytcphjfggjjonpaa", sum := "7e850c1019435009bd4f7137227d0999f953c34c9d3d1491a838a79f02036bbb", func := "sibyl/sibyllaw24.ContainWitness", spec := "containWitness", unfollowed := true, recurses := true, apart := false, narrowed := true }
def ContainWitnessUptoSaid : Prop := containWitnessUptoRow.holds Try.pinned (OpenSpec.upto containWitnessSpec)

/-- 'sibyllaw24.ContainOrder', WHERE WHAT IT READS IS OF BULK AT MOST 1048576: true; the input reads as it did. -/
def containOrderUptoRow : OpenClaim := { program := "ytcphjfggjjonpaa", sum := "7e850c1019435009bd4f7137227d0999f953c34c9d3d1491a838a79f02036bbb", func := "sibyl/sibyllaw24.ContainOrder", spec := "containOrder", unfollowed := true, recurses := true, apart := false, narrowed := true }
def ContainOrderUptoSaid : Prop := containOrderUptoRow.holds Try.pinned (OpenSpec.upto containOrderSpec)

/-- 'sibyllaw24.ContainLays', WHERE WHAT IT READS IS OF BULK AT MOST 1048576: true; the input reads as it did. -/
def containLaysUptoRow : OpenClaim := { program := "ytcphjfggjjonpaa", sum := "7e850c1019435009bd4f7137227d0999f953c34c9d3d1491a838a79f02036bbb", func := "sibyl/sibyllaw24.ContainLays", spec := "containLays", unfollowed := true, recurses := true, apart := false, narrowed := true }
def ContainLaysUptoSaid : Prop := containLaysUptoRow.holds Try.pinned (OpenSpec.upto containLaysSpec)

/-- 'sibyllaw24.ContainPrunes', WHERE WHAT IT READS IS OF BULK AT MOST 1048576: true; the input reads as it did. -/
def containPrunesUptoRow : OpenClaim := { program := "ytcphjfggjjonpaa", sum := "7e850c1019435009bd4f7137227d0999f953c34c9d3d1491a838a79f02036bbb", func := "sibyl/sibyllaw24.ContainPrunes", spec := "containPrunes", unfollowed := true, recurses := true, apart := false, narrowed := true }
def ContainPrunesUptoSaid : Prop := containPrunesUptoRow.holds Try.pinned (OpenSpec.upto containPrunesSpec)

/-- 'sibyllaw24.ContainLeast', WHERE WHAT IT READS IS OF BULK AT MOST 1048576: true; the input reads as it did. -/
def containLeastUptoRow : OpenClaim := { program := "ytcphjfggjjonpaa", sum := "7e850c1019435009bd4f7137227d0999f953c34c9d3d1491a838a79f02036bbb", func := "sibyl/sibyllaw24.ContainLeast", spec := "containLeast", unfollowed := true, recurses := true, apart := false, narrowed := true }
def ContainLeastUptoSaid : Prop := containLeastUptoRow.holds Try.pinned (OpenSpec.upto containLeastSpec)

/-- 'sibyllaw24.ContainCore', WHERE WHAT IT READS IS OF BULK AT MOST 1048576: true; the input reads as it did. -/
def containCoreUptoRow : OpenClaim := { program := "ytcphjfggjjonpaa", sum := "7e850c1019435009bd4f7137227d0999f953c34c9d3d1491a838a79f02036bbb", func := "sibyl/sibyllaw24.ContainCore", spec := "containCore", unfollowed := true, recurses := true, apart := false, narrowed := true }
def ContainCoreUptoSaid : Prop := containCoreUptoRow.holds Try.pinned (OpenSpec.upto containCoreSpec)

/-- 'sibyllaw24.ContainOwn', WHERE WHAT IT READS IS OF BULK AT MOST 1048576: true; the input reads as it did. -/
def containOwnUptoRow : OpenClaim := { program := "ytcphjfggjjonpaa", sum := "7e850c1019435009bd4f7137227d0999f953c34c9d3d1491a838a79f02036bbb", func := "sibyl/sibyllaw24.ContainOwn", spec := "containOwn", unfollowed := true, recurses := true, apart := false, narrowed := true }
def ContainOwnUptoSaid : Prop := containOwnUptoRow.holds Try.pinned (OpenSpec.upto containOwnSpec)

end Rows
end Go.Proofs.Ytcphjfggjjonpaa
