/- The range tests of both packages. -/
import Derived.Test.YtbfiaflagadkoaaRows
import Derived.Test.YtbfiaflagadkoaaWords
namespace Go.Proofs.Ytbfiaflagadkoaa
open Go.RowKit

set_option maxRecDepth 100000 in
theorem in_spec (n lo hi : Int) (w : World) :
    Calls Try.prog 84 #[.int .i64 n, .int .i64 lo, .int .i64 hi] w fun e w' => e = .returned (.bool (inR n lo hi)) ∧ Ext w w' := by
  go_enter Try.func84, Try.ntmps84
  by_cases h1 : lo ≤ n <;> by_cases h2 : n ≤ hi
  all_goals
    go_wp2
    go_ret
    exact ⟨by simp [inR, h1, h2], Ext.refl _⟩

set_option maxRecDepth 100000 in
theorem in_impl (n lo hi : Int) (w : World) :
    Calls Try.prog 118 #[.int .i64 n, .int .i64 lo, .int .i64 hi] w fun e w' => e = .returned (.bool (inR n lo hi)) ∧ Ext w w' := by
  go_enter Try.func118, Try.ntmps118
  by_cases h1 : lo ≤ n <;> by_cases h2 : n ≤ hi
  all_goals
    go_wp2
    go_ret
    exact ⟨by simp [inR, h1, h2], Ext.refl _⟩

end Go.Proofs.Ytbfiaflagadkoaa
