/- Whether nobody has a better answer, of the program and of the spec. -/
import Derived.Test.YtafdedgckbhhjaaGreatRea
import Derived.Test.YtafdedgckbhhjaaGreatSetP
namespace Go.Proofs.YtafdedgckbhhjaaGreat
open Go.RowKit

end Go.Proofs.YtafdedgckbhhjaaGreat
