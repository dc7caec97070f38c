/- The program's own test of approvals. -/
import Derived.Test.YtilcdnkkabmbfaaGreatFind
namespace Go.Proofs.YtilcdnkkabmbfaaGreat
open Go.RowKit

end Go.Proofs.YtilcdnkkabmbfaaGreat
