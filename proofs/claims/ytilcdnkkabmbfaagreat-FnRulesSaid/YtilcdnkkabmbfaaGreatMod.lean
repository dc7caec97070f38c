/- The answers on failures of a rule (plain law). -/
import Derived.Test.YtilcdnkkabmbfaaGreatCk16
import Derived.Test.YtilcdnkkabmbfaaGreatModA
namespace Go.Proofs.YtilcdnkkabmbfaaGreat
open Go.RowKit

/-- There is a winner and another one who should win. -/
noncomputable def missB (w a : Int) : Bool := decide (0 ≤ w) && (decide (0 ≤ a) && !(w == a))
/-- A vote in which the winner is raised and with which it no longer wins. -/
noncomputable def monQ (rule sz : Int) (vs : List Vt) (w : Int) (k : Nat) : Bool :=
  decide (1 ≤ placeI (vs.getD k ([], 0)).1 w) && !(winB rule sz (vs.set k (raiseL (vs.getD k ([], 0)).1 (placeI (vs.getD k ([], 0)).1 w).toNat, (vs.getD k ([], 0)).2)) == w)
noncomputable def monO (rule sz : Int) (vs : List Vt) : Int := if winB rule sz vs < 0 then -1 else firstN vs.length (monQ rule sz vs (winB rule sz vs))
/-- Without this vote a candidate wins whom it prefers. -/
noncomputable def absQ (rule sz : Int) (vs : List Vt) (w : Int) (k : Nat) : Bool := prefB (vs.getD k ([], 0)).1 (winB rule sz (vs.eraseIdx k)) w
noncomputable def absO (rule sz : Int) (vs : List Vt) : Int := if winB rule sz vs < 0 then -1 else firstN vs.length (absQ rule sz vs (winB rule sz vs))
/-- Without this candidate another one wins. -/
noncomputable def spoQ (rule sz : Int) (vs : List Vt) (w : Int) (a : Nat) : Bool :=
  !((a : Int) == w) && !(winB rule (sz - 1) (mapV (dropL a) vs) == (if (a : Int) < w then w - 1 else w))
noncomputable def spoO (rule sz : Int) (vs : List Vt) : Int := if winB rule sz vs < 0 then -1 else firstN sz.toNat (spoQ rule sz vs (winB rule sz vs))
/-- One alone wins, and also in the reversed profile. -/
noncomputable def revO (rule sz : Int) (vs : List Vt) : Bool := decide ((winO rule sz vs).length = 1) && (decide (2 ≤ sz) && decide (winO rule sz vs = winO rule sz (mapV List.reverse vs)))
/-- Both parts have the same winner, and the whole another one. -/
noncomputable def splO (rule sz : Int) (vs : List Vt) (k : Int) : Bool :=
  decide (0 ≤ winB rule sz vs) && (inR k 1 ((vs.length : Int) - 1) && ((winB rule sz (vs.take k.toNat) == winB rule sz (vs.drop k.toNat)) && !(winB rule sz (vs.take k.toNat) == winB rule sz vs)))
/-- The rules by which a candidate wins. -/
noncomputable def rulL (sz : Int) (vs : List Vt) (a : Int) (k : Nat) : List Int := ((List.range k).filter (fun i : Nat => decide (winB ((i : Int) + 1) sz vs = a))).map (fun i : Nat => (i : Int) + 1)
noncomputable def rulO (sz : Int) (vs : List Vt) (a : Int) : List Int := if profOk sz vs then rulL sz vs a 13 else []
set_option maxRecDepth 100000 in
theorem rulL_succ (sz : Int) (vs : List Vt) (a : Int) (k : Nat) : rulL sz vs a (k + 1) = rulL sz vs a k ++ if winB ((k : Int) + 1) sz vs = a then [(k : Int) + 1] else [] := by
  unfold rulL
  rw [List.range_succ, List.filter_append, List.map_append]
  by_cases h : winB ((k : Int) + 1) sz vs = a <;> simp [h]
set_option maxRecDepth 100000 in
theorem rulL_len (sz : Int) (vs : List Vt) (a : Int) (k : Nat) : (rulL sz vs a k).length ≤ k := by
  unfold rulL
  rw [List.length_map]
  exact Nat.le_trans (List.length_filter_le _ _) (by simp)
set_option maxRecDepth 100000 in
theorem rulO_len (sz : Int) (vs : List Vt) (a : Int) : (rulO sz vs a).length ≤ 13 := by
  unfold rulO
  split
  · exact rulL_len _ _ _ _
  · simp

end Go.Proofs.YtilcdnkkabmbfaaGreat
