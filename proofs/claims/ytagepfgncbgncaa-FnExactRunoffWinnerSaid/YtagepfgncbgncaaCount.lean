/- The number of voters. -/
import Derived.Test.YtagepfgncbgncaaMaxi
namespace Go.Proofs.Ytagepfgncbgncaa
open Go.RowKit

end Go.Proofs.Ytagepfgncbgncaa
