/- The walk of the join's comparisons. -/
import Derived.Test.YtpgbenijjodoeaaGreatG2
import Derived.Test.YtpgbenijjodoeaaGreatG27
namespace Go.Proofs.YtpgbenijjodoeaaGreat
open Go.ChangeShapes Go.WideShapes Go.ChangeAt Go.RowKit
end Go.Proofs.YtpgbenijjodoeaaGreat
