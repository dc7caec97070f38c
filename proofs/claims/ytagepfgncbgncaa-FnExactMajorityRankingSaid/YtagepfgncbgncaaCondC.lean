/- Condorcet winner and loser, the unbeaten: both sides. -/
import Derived.Test.YtagepfgncbgncaaCond
namespace Go.Proofs.Ytagepfgncbgncaa
open Go.RowKit

def loserO (sz : Int) (vs : List Vt) : Int := onlyL (thoseO sz vs (fun i j => bt vs j i))
def winnerO (sz : Int) (vs : List Vt) : Int := onlyL (thoseO sz vs (bt vs))
set_option maxRecDepth 100000 in
theorem smallL (n : Nat) (vs : List Vt) : (upsL n vs).length = n ∧ (dnsL n vs).length = n := ⟨rowL_len _ _, rowL_len _ _⟩

set_option maxRecDepth 100000 in
theorem small_up {n : Nat} (h : n ≤ 5) (vs : List Vt) : (upsL n vs).length ≤ 2000000 := by have := smallL n vs; omega
set_option maxRecDepth 100000 in
theorem small_dn {n : Nat} (h : n ≤ 5) (vs : List Vt) : (dnsL n vs).length ≤ 2000000 := by have := smallL n vs; omega

end Go.Proofs.Ytagepfgncbgncaa
