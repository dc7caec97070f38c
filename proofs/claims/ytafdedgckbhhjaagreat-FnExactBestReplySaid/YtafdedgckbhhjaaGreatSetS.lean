/- FnExactIsSettled, walked in the spec. -/
import Derived.Test.YtafdedgckbhhjaaGreatSetW
namespace Go.Proofs.YtafdedgckbhhjaaGreat
open Go.RowKit

end Go.Proofs.YtafdedgckbhhjaaGreat
