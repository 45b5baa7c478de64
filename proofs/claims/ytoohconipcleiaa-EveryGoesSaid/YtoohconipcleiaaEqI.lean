/- Contract of Eq at ints. -/
import Derived.Test.YtoohconipcleiaaChecked
import Derived.Test.YtoohconipcleiaaMD
import Derived.IntWalk
namespace Go.Proofs.Ytoohconipcleiaa
open Go.RowKit

end Go.Proofs.Ytoohconipcleiaa
