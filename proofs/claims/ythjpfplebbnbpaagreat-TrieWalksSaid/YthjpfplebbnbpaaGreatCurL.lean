/- Where a cursor's blocks lie. -/
import Derived.Test.YthjpfplebbnbpaaGreatCur5
namespace Go.Proofs.YthjpfplebbnbpaaGreat
open Go.ChangeShapes Go.WideShapes Go.ChangeAt Go.RowKit
theorem CurV.top_lt {w : World} {lo pc pt : Nat} {rb : Option Nat} {sp : List (Nat × Nat)} (h : CurV w lo pc pt rb sp) : ∀ b, CurB pc rb b → b < w.heap.size := fun b hb => by
  rcases hb with rfl | hb
  · exact h.lt
  · exact (h.ne hb).2.2
theorem CurV.low {w : World} {lo pc pt : Nat} {rb : Option Nat} {sp : List (Nat × Nat)} (h : CurV w lo pc pt rb sp) : ∀ b, CurB pc rb b → lo ≤ b := fun b hb => by
  rcases hb with rfl | hb
  · exact h.lo
  · exact (h.ne hb).2.1
end Go.Proofs.YthjpfplebbnbpaaGreat
