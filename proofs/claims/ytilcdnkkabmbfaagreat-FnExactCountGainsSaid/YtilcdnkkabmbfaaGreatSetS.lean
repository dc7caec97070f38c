/- FnExactIsSettled, walked in the spec. -/
import Derived.Test.YtilcdnkkabmbfaaGreatSetW
namespace Go.Proofs.YtilcdnkkabmbfaaGreat
open Go.RowKit

end Go.Proofs.YtilcdnkkabmbfaaGreat
