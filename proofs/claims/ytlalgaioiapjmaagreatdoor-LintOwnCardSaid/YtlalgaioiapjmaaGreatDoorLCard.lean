/- The law LintOwn: THE TIED CARD. -/
import Derived.Test.YtlalgaioiapjmaaGreatDoorG48
import Derived.Test.YtlalgaioiapjmaaGreatDoorTie
import Derived.Test.YtlalgaioiapjmaaGreatDoorCards
import Derived.SevenTiedAt
namespace Go.Proofs.YtlalgaioiapjmaaGreatDoor.lintOwn
open Go
theorem proved : Rows.LintOwnCardSaid :=
  Claim7.holds_tied_plain_at .later [] [.data, .data, .data] true (true, "e41daf96216483eb00d3f43eee4aadbafafbd87aac99e5df0ada51626933210f") false
    over (fun _ h => by cases h) (by kernel_rfl) (fun _ h => by cases h) lintOwn_row_tie rfl ⟨rfl, rfl⟩ (by kernel_rfl) rfl
    (fun f fn hf hfn => by
      obtain rfl : f = 3 := Option.some.inj ((show Tryz.prog.funcNamed "sibyl/sibyllaw30.LintOwn" = some 3 by kernel_rfl).symm.trans hf) |>.symm
      obtain rfl : fn = Tryz.f3 := (Option.some.inj (Tryz.func3.symm.trans hfn)).symm
      exact ⟨by kernel_rfl, fun j t ht => by
        rw [Tryz.params3] at ht
        have hm : t ∈ [24, 25, 25] := by simpa using Array.mem_of_getElem? ht
        have hall : ([24, 25, 25].all fun u => !Tryz.prog.wantsStandIn u) = true := by kernel_rfl
        exact (show Tryz.prog.wantsStandIn t = false by simpa using List.all_eq_true.1 hall t hm)⟩)
    (by kernel_rfl)
#print axioms proved
end Go.Proofs.YtlalgaioiapjmaaGreatDoor.lintOwn
