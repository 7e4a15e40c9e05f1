/-
  No cell of these rows narrows 'for every input' (looked for: loops, veiled, ifaces, maps, wideKeys, modest, calm, conditions, laid).
  DERIVED. THE GIVEN ROWS OF THIS SEAT. 3 by the template 'for every input the law returns true; each argument reads behind the call as it read before'; 0 by the template 'total and deterministic' (their statements: YthjpfplebbnbpaaTotals.lean).
  GIVEN WITH THE SEED: the statements are not yours to turn. If you find one false, say at which input.
  Laid BY PROGRAM, IN A SANDBOX (cutbox-rows.mjs): the forced cells as the released guide's own fill.sh prints them over the translation 66dd7c5e6f446e67… (all of the seat's roots in one cut). By AI agents, Wed Nov 11 2026. No macro, syntax, notation, axiom, sorry.
-/
import Derived.Test.YthjpfplebbnbpaaChecked
import GoSem.Claim
import GoSem.ClaimJoined
import GoSem.ClaimMapViews
import Derived.JoinedTies
import Derived.KernelRfl
namespace Go.Proofs.Ythjpfplebbnbpaa
/- THE CELL 'sum', in the pinned program and in every row, IS THE sha256 OF THE DUMP (.gsa) THAT YthjpfplebbnbpaaProg.lean LOADS. Nothing in Lean hashes anything: it is a label: what it is worth is what the hold of that sum in a sandbox is worth. -/
noncomputable def Try.pinned : Pinned := { name := "ythjpfplebbnbpaa", sum := "66dd7c5e6f446e67346980b512ef8455a9ede3334f0c67d0b82e3a90c39bad7c", checked := Try.checked }
namespace Rows
def none {H : Type} : Left H := { results := [], args := [] }

/-- 'sibyllaw13.TrieAll': WHATEVER THE INPUT: true; the input reads as it did. -/
def trieAllSpec : ChangeSpec := { name := "trieAll", fn := fun _ => fun
  | [d] => { results := [.lit (.bool true)], args := [d] }
  | _ => none }
def trieAllRow : OpenClaim := { program := "ythjpfplebbnbpaa", sum := "66dd7c5e6f446e67346980b512ef8455a9ede3334f0c67d0b82e3a90c39bad7c", func := "sibyl/sibyllaw13.TrieAll", spec := "trieAll", inPlace := ["slices.overlaps[[]string]"], unfollowed := true, recurses := true, apart := false }
def TrieAllSaid : Prop := trieAllRow.holds Try.pinned (OpenSpec.ofChange trieAllSpec)

/-- ITS FALSE NEIGHBOUR: 'it returns false'. Refute it at one input. -/
def trieAllWrong : ChangeSpec := { name := "trieAll", fn := fun _ => fun
  | [d] => { results := [.lit (.bool false)], args := [d] }
  | _ => none }
def TrieAllWrongFalsely : Prop := trieAllRow.holds Try.pinned (OpenSpec.ofChange trieAllWrong)

/-- 'sibyllaw13.TrieSeeks': WHATEVER THE INPUT: true; the input reads as it did. -/
def trieSeeksSpec : ChangeSpec := { name := "trieSeeks", fn := fun _ => fun
  | [d1, d2, d3] => { results := [.lit (.bool true)], args := [d1, d2, d3] }
  | _ => none }
def trieSeeksRow : OpenClaim := { program := "ythjpfplebbnbpaa", sum := "66dd7c5e6f446e67346980b512ef8455a9ede3334f0c67d0b82e3a90c39bad7c", func := "sibyl/sibyllaw13.TrieSeeks", spec := "trieSeeks", inPlace := ["slices.overlaps[[]string]"], unfollowed := true, recurses := true, apart := false }
def TrieSeeksSaid : Prop := trieSeeksRow.holds Try.pinned (OpenSpec.ofChange trieSeeksSpec)

/-- ITS FALSE NEIGHBOUR: 'it returns false'. Refute it at one input. -/
def trieSeeksWrong : ChangeSpec := { name := "trieSeeks", fn := fun _ => fun
  | [d1, d2, d3] => { results := [.lit (.bool false)], args := [d1, d2, d3] }
  | _ => none }
def TrieSeeksWrongFalsely : Prop := trieSeeksRow.holds Try.pinned (OpenSpec.ofChange trieSeeksWrong)

/-- 'sibyllaw13.TrieOwn': WHATEVER THE INPUT: true; the input reads as it did. -/
def trieOwnSpec : ChangeSpec := { name := "trieOwn", fn := fun _ => fun
  | [d1, d2] => { results := [.lit (.bool true)], args := [d1, d2] }
  | _ => none }
def trieOwnRow : OpenClaim := { program := "ythjpfplebbnbpaa", sum := "66dd7c5e6f446e67346980b512ef8455a9ede3334f0c67d0b82e3a90c39bad7c", func := "sibyl/sibyllaw13.TrieOwn", spec := "trieOwn", inPlace := ["slices.overlaps[[]string]"], unfollowed := true, recurses := true, apart := false }
def TrieOwnSaid : Prop := trieOwnRow.holds Try.pinned (OpenSpec.ofChange trieOwnSpec)

/-- ITS FALSE NEIGHBOUR: 'it returns false'. Refute it at one input. -/
def trieOwnWrong : ChangeSpec := { name := "trieOwn", fn := fun _ => fun
  | [d1, d2] => { results := [.lit (.bool false)], args := [d1, d2] }
  | _ => none }
def TrieOwnWrongFalsely : Prop := trieOwnRow.holds Try.pinned (OpenSpec.ofChange trieOwnWrong)

/- THE SECOND FORM. 'bulk': how many values and letters a reading holds, each counted each time it is reached (what is shared counts as often as it is met; a slice's spare places count too). A statement '..UptoSaid' is the law's where the arguments, and the package variables that the reading takes, are together of bulk at most 1048576: NARROWER than '..Said'. Prove '..Said' where nothing that the law and all that it calls make is longer than what came in: it says more and counts as full. Else prove '..UptoSaid'. A law counts once. -/
mutual
def uptoBulk {H : Type} : DataW H → Nat
  | .lit (.string bytes) => bytes.length + 1
  | .lit _ => 1
  | .nil => 1
  | .ptr d => uptoBulk d + 1
  | .slice elems spare => uptoBulkAll elems + uptoBulkAll spare + 1
  | .agg parts => uptoBulkAll parts + 1
  | .iface _ d => uptoBulk d + 1
  | .map entries => uptoBulkEntries entries + 1
  | .held _ => 1
def uptoBulkAll {H : Type} : List (DataW H) → Nat
  | [] => 0
  | d :: r => uptoBulk d + uptoBulkAll r
def uptoBulkEntries {H : Type} : List (Lit × DataW H) → Nat
  | [] => 0
  | x :: r => uptoBulkEntry x + uptoBulkEntries r
def uptoBulkEntry {H : Type} : Lit × DataW H → Nat
  | (.string bytes, d) => bytes.length + uptoBulk d + 1
  | (_, d) => uptoBulk d + 1
 end
def uptoSmall : (H : Type) → List (DataW H) → Bool := fun _ ds => decide (uptoBulkAll ds ≤ 1048576)
def OpenSpec.upto (s : _root_.Go.ChangeSpec) : _root_.Go.OpenSpec := { _root_.Go.OpenSpec.ofChange s with cond := some uptoSmall }

/-- 'sibyllaw13.TrieAll', WHERE WHAT IT READS IS OF BULK AT MOST 1048576: true; the input reads as it did. -/
def trieAllUptoRow : OpenClaim := { program := "ythjpfplebbnbpaa", sum := "66dd7c5e6f446e67346980b512ef8455a9ede3334f0c67d0b82e3a90c39bad7c", func := "sibyl/sibyllaw13.TrieAll", spec := "trieAll", inPlace := ["slices.overlaps[[]string]"], unfollowed := true, recurses := true, apart := false, narrowed := true }
def TrieAllUptoSaid : Prop := trieAllUptoRow.holds Try.pinned (OpenSpec.upto trieAllSpec)

/-- 'sibyllaw13.TrieSeeks', WHERE WHAT IT READS IS OF BULK AT MOST 1048576: true; the input reads as it did. -/
def trieSeeksUptoRow : OpenClaim := { program := "ythjpfplebbnbpaa", sum := "66dd7c5e6f446e67346980b512ef8455a9ede3334f0c67d0b82e3a90c39bad7c", func := "sibyl/sibyllaw13.TrieSeeks", spec := "trieSeeks", inPlace := ["slices.overlaps[[]string]"], unfollowed := true, recurses := true, apart := false, narrowed := true }
def TrieSeeksUptoSaid : Prop := trieSeeksUptoRow.holds Try.pinned (OpenSpec.upto trieSeeksSpec)

/-- 'sibyllaw13.TrieOwn', WHERE WHAT IT READS IS OF BULK AT MOST 1048576: true; the input reads as it did. -/
def trieOwnUptoRow : OpenClaim := { program := "ythjpfplebbnbpaa", sum := "66dd7c5e6f446e67346980b512ef8455a9ede3334f0c67d0b82e3a90c39bad7c", func := "sibyl/sibyllaw13.TrieOwn", spec := "trieOwn", inPlace := ["slices.overlaps[[]string]"], unfollowed := true, recurses := true, apart := false, narrowed := true }
def TrieOwnUptoSaid : Prop := trieOwnUptoRow.holds Try.pinned (OpenSpec.upto trieOwnSpec)

end Rows
end Go.Proofs.Ythjpfplebbnbpaa
