/- The range tests of both packages. -/
import Derived.Test.YtagepfgncbgncaaRows
import Derived.Test.YtagepfgncbgncaaWords
namespace Go.Proofs.Ytagepfgncbgncaa
open Go.RowKit

set_option maxRecDepth 100000 in
theorem in_spec (n lo hi : Int) (w : World) :
    Calls Try.prog 55 #[.int .i64 n, .int .i64 lo, .int .i64 hi] w fun e w' => e = .returned (.bool (inR n lo hi)) ∧ Ext w w' := by
  go_enter Try.func55, Try.ntmps55
  by_cases h1 : lo ≤ n <;> by_cases h2 : n ≤ hi
  all_goals
    go_wp2
    go_ret
    exact ⟨by simp [inR, h1, h2], Ext.refl _⟩

set_option maxRecDepth 100000 in
theorem in_impl (n lo hi : Int) (w : World) :
    Calls Try.prog 112 #[.int .i64 n, .int .i64 lo, .int .i64 hi] w fun e w' => e = .returned (.bool (inR n lo hi)) ∧ Ext w w' := by
  go_enter Try.func112, Try.ntmps112
  by_cases h1 : lo ≤ n <;> by_cases h2 : n ≤ hi
  all_goals
    go_wp2
    go_ret
    exact ⟨by simp [inR, h1, h2], Ext.refl _⟩

end Go.Proofs.Ytagepfgncbgncaa
