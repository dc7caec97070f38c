/- FnExactIsSettled, walked in the program. -/
import Derived.Test.YtilcdnkkabmbfaaGreatSet
namespace Go.Proofs.YtilcdnkkabmbfaaGreat
open Go.RowKit

set_option maxRecDepth 100000 in
theorem setO_no {rule sz sz2 : Int} {vs ts : List Vt} (h : ¬ (plyB rule sz vs = true ∧ profOk sz2 ts = true ∧ sz2 = sz ∧ (ts.length : Int) = vs.length)) : setO rule sz vs sz2 ts = false := by
  unfold setO
  rw [Bool.eq_false_iff]
  intro e
  simp only [Bool.and_eq_true, decide_eq_true_eq] at e
  exact h ⟨e.1, e.2.1, e.2.2.1, by omega⟩

set_option maxRecDepth 100000 in
theorem prof_rk {sz : Int} {ts : List Vt} (h : profOk sz ts = true) {k : Nat} {y : Vt} (hy : ts[k]? = some y) : rkOk sz y.1 = true := by
  unfold profOk at h
  simp only [Bool.and_eq_true, List.all_eq_true] at h
  have h2 := h.2.2 y (List.mem_of_getElem? hy)
  unfold vtOk at h2
  simp only [Bool.and_eq_true] at h2
  exact h2.1

end Go.Proofs.YtilcdnkkabmbfaaGreat
