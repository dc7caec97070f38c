/- The best answer of a voter, and who gains by it (plain law). -/
import Derived.Test.YtilcdnkkabmbfaaGreatSetP
import Derived.Test.YtilcdnkkabmbfaaGreatCk8
namespace Go.Proofs.YtilcdnkkabmbfaaGreat
open Go.RowKit

/-- The best ranking that a voter can hand in, of a rule and a profile. -/
noncomputable def bstO (rule sz : Int) (vs : List Vt) (k : Int) : List Int := if gnB rule sz vs k then (repO (gnW rule sz vs k.toNat) (vs.getD k.toNat ([], 0)).1 sz.toNat).1 else []
noncomputable def gainB (rule sz : Int) (vs : List Vt) (k : Nat) : Bool := gnB rule sz vs k && betB rule sz vs k (vs.getD k ([], 0)).1
noncomputable def gfstO (rule sz : Int) (vs : List Vt) : Int := firstN vs.length (gainB rule sz vs)
set_option maxRecDepth 100000 in
theorem repO_ok {rule : Int} {n : Nat} {vs : List Vt} {k : Nat} {x : Vt} (truth : List Int) (h0 : profOk n vs = true) (r1 : 1 ≤ rule) (r2 : rule ≤ 13) (hx : vs[k]? = some x) : rkOk n (repO (gnW rule n vs k) truth n).1 = true ∧ gnW rule n vs k (repO (gnW rule n vs k) truth n).1 = (repO (gnW rule n vs k) truth n).2 := by
  have hsz := prof_size h0
  have n1 : 1 ≤ n := by omega
  have n2 : n ≤ 5 := by omega
  have h := (repT_inv (W := gnW rule n vs k) (truth := truth) (rows := allO n) (fun r hr => by obtain ⟨y, _, e⟩ := gnW_lt h0 r1 r2 hx ((allO_mem n1 n2).1 hr); omega) (allO n).length (allO_pos n1 n2) (Nat.le_refl _)).1
  exact ⟨(allO_mem n1 n2).1 h.1, h.2⟩

end Go.Proofs.YtilcdnkkabmbfaaGreat
