/-
  DERIVED. GIVEN WITH THE SEED: THE CARDS: each row of YtlalgaioiapjmaaGreatDoorRows.lean that lists a variable, with what it lists TIED to the program's text (the seventh form; the later family's looks); each row that meets fmt, with fmt's text TOLD by the authors' own Lean function (tested against real Go, not proved from fmt's source: count such statements apart). THE CARD IS WHAT COUNTS. Prove the row's statement (the work); the ties are given (YtlalgaioiapjmaaGreatDoorTie.lean); close each card by the builder's one call (the guide's Derived/Test/ToyasCard.lean, 'card_holds'). Laid BY PROGRAM, IN A SANDBOX (cutbox-door.mjs). By AI agents, Wed Nov 11 2026. No macro, syntax, notation, axiom, sorry.
-/
import Derived.Test.YtlalgaioiapjmaaGreatDoorRows
import GoSem.ClaimSeven
namespace Go.Proofs.YtlalgaioiapjmaaGreatDoor
namespace Rows

/-- THE TIED CARD OF 'sibyllaw30.LintOwn'. -/
def lintOwnCard : Claim7 := { stood := { row := lintOwnRow, standIns := [], harness := (true, "e41daf96216483eb00d3f43eee4aadbafafbd87aac99e5df0ada51626933210f"), looks := false }, kinds := [], alts := [], laidByText := true, laidKinds := [.data, .data, .data], laidTests := true, laidLooks := .later }
def LintOwnCardSaid : Prop := Claim7.holds Tryz.pinned (.plain (OpenSpec.ofChange lintOwnSpec)) lintOwnCard

/-- THE SECOND FORM's CARD OF 'sibyllaw30.LintOwn'. -/
def lintOwnUptoCard : Claim7 := { stood := { row := lintOwnUptoRow, standIns := [], harness := (true, "e41daf96216483eb00d3f43eee4aadbafafbd87aac99e5df0ada51626933210f"), looks := false }, kinds := [], alts := [], laidByText := true, laidKinds := [.data, .data, .data], laidTests := true, laidLooks := .later }
def LintOwnUptoCardSaid : Prop := Claim7.holds Tryz.pinned (.plain (OpenSpec.upto lintOwnSpec)) lintOwnUptoCard
end Rows
end Go.Proofs.YtlalgaioiapjmaaGreatDoor
