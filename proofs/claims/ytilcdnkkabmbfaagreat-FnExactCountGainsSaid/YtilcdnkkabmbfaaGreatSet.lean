/- Whether nobody has a better answer, of the program and of the spec. -/
import Derived.Test.YtilcdnkkabmbfaaGreatRea
import Derived.Test.YtilcdnkkabmbfaaGreatSetP
namespace Go.Proofs.YtilcdnkkabmbfaaGreat
open Go.RowKit

end Go.Proofs.YtilcdnkkabmbfaaGreat
