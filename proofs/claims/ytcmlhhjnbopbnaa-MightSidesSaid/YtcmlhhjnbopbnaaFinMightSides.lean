/- The given statement MightSides: whatever the input, the law returns true and each argument reads afterwards as it read before. Conditions: those of the given row, none beside. -/
import Derived.Test.YtcmlhhjnbopbnaaRows
import Derived.Test.YtcmlhhjnbopbnaaJSR2
namespace Go.Proofs.Ytcmlhhjnbopbnaa.finMightSides
theorem said : Rows.MightSidesSaid := Go.Jo.S.sides_said
end Go.Proofs.Ytcmlhhjnbopbnaa.finMightSides
