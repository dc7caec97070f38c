/- Which approvals are valid: both packages' tests answer as one plain function. -/
import Derived.Test.YtilcdnkkabmbfaaGreatCk0
namespace Go.Proofs.YtilcdnkkabmbfaaGreat
open Go.RowKit

def balOk (sz : Int) (x : Int × Int) : Bool := inR x.1 0 (topOf sz) && inR x.2 1 1000
def appOk (sz : Int) (bs : List (Int × Int)) : Bool := inR sz 1 6 && (decide (bs.length ≤ 12) && bs.all (balOk sz))

end Go.Proofs.YtilcdnkkabmbfaaGreat
