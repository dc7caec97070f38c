/- The number of voters. -/
import Derived.Test.YtpicmaggkginkaaMaxi
namespace Go.Proofs.Ytpicmaggkginkaa
open Go.RowKit

end Go.Proofs.Ytpicmaggkginkaa
