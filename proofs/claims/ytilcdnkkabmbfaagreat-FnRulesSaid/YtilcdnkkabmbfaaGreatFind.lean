/- The library's searches over approvals, with a function value that only adds memory. -/
import Derived.Test.YtilcdnkkabmbfaaGreatOk
import Derived.Test.YtilcdnkkabmbfaaGreatCk1
namespace Go.Proofs.YtilcdnkkabmbfaaGreat
open Go.RowKit

end Go.Proofs.YtilcdnkkabmbfaaGreat
