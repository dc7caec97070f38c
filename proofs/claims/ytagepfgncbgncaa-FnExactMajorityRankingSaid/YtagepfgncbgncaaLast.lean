/- How many rank a candidate behind, or before, all others that are left. -/
import Derived.Test.YtagepfgncbgncaaFun
import Derived.Test.YtagepfgncbgncaaPairC
namespace Go.Proofs.Ytagepfgncbgncaa
open Go.RowKit

def lsP (left : List Int) (x : Int) (r : List Int) : Bool := !(left.any (fun b => prefB r x b))
def fsP (left : List Int) (x : Int) (r : List Int) : Bool := !(left.any (fun b => prefB r b x))

end Go.Proofs.Ytagepfgncbgncaa
