/- Counting the members of a set. -/
import Derived.Test.YtilcdnkkabmbfaaGreatOnes
namespace Go.Proofs.YtilcdnkkabmbfaaGreat
open Go.RowKit

end Go.Proofs.YtilcdnkkabmbfaaGreat
