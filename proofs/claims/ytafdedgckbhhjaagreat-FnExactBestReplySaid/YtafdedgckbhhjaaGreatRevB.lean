/- Rankings that are turned round or left by a candidate, of the program and of the spec. -/
import Derived.Test.YtafdedgckbhhjaaGreatRev
namespace Go.Proofs.YtafdedgckbhhjaaGreat
open Go.RowKit

end Go.Proofs.YtafdedgckbhhjaaGreat
