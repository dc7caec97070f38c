/- Who can be reached by changing a ballot, of the program and of the spec. -/
import Derived.Test.YtilcdnkkabmbfaaGreatGn
import Derived.Test.YtilcdnkkabmbfaaGreatWay
namespace Go.Proofs.YtilcdnkkabmbfaaGreat
open Go.RowKit

set_option maxRecDepth 100000 in
theorem run_neq_some {P : Program} (w : World) {t e : TypeId} (a : Addr) (n c : Nat) (ht : P.underlying t = some (.slice e)) :
    (binOp .neq t (.slice (some a) n c) (.slice none 0 0)).run P w = .ok (.bool true) w := by
  have h : ∀ d : Nat, (Op.equalIn (d + 1) t (.slice (some a) n c) (.slice none 0 0)).run P w = .ok false w := fun d => by
    simp [Op.equalIn, run_underlying ht]
  simp only [binOp]
  simp [Op.equal, Op.maxDepth, h 9999]
set_option maxRecDepth 100000 in
theorem run_neq_none {P : Program} (w : World) {t e : TypeId} (n c : Nat) (ht : P.underlying t = some (.slice e)) :
    (binOp .neq t (.slice none n c) (.slice none 0 0)).run P w = .ok (.bool false) w := by
  have h : ∀ d : Nat, (Op.equalIn (d + 1) t (.slice none n c) (.slice none 0 0)).run P w = .ok true w := fun d => by
    simp [Op.equalIn, run_underlying ht]
  simp only [binOp]
  simp [Op.equal, Op.maxDepth, h 9999]
set_option maxRecDepth 100000 in
theorem gn_ok {rule sz k : Int} {vs : List Vt} (h : gnB rule sz vs k = true) : ∃ (n kn : Nat) (x : Vt), sz = n ∧ k = kn ∧ profOk n vs = true ∧ n ≤ 4 ∧ 1 ≤ rule ∧ rule ≤ 13 ∧ vs[kn]? = some x := by
  unfold gnB at h
  rw [Bool.and_eq_true] at h
  obtain ⟨h0, h4, r1, r2⟩ := ply_ok h.1
  obtain ⟨k1, k2⟩ := inR_iff.1 h.2
  obtain ⟨n, rfl, _, _⟩ := prof_nat h0
  obtain ⟨x, hx⟩ := at_of_lt (xs := vs) (k := k.toNat) (by omega)
  exact ⟨n, k.toNat, x, rfl, by omega, h0, by omega, r1, r2, hx⟩

end Go.Proofs.YtilcdnkkabmbfaaGreat
