/- SeatsFor of both packages. -/
import Derived.Test.YtilcdnkkabmbfaaGreatOkI
import Derived.Test.YtilcdnkkabmbfaaGreatCnt
namespace Go.Proofs.YtilcdnkkabmbfaaGreat
open Go.RowKit

/-- The common members of two sets. -/
def landI (a b : Int) : Int := bits BinOp.and IntKind.i64 a b
set_option maxRecDepth 100000 in
theorem landI_comm (a b : Int) : landI a b = landI b a := by
  show IntKind.i64.wrap _ = IntKind.i64.wrap _
  rw [BitVec.and_comm]
set_option maxRecDepth 100000 in
theorem ofInt_i64 (a : Nat) (ha : a < 9223372036854775808) : (BitVec.ofInt 64 (a : Int)).toNat = a := by
  rw [BitVec.ofInt_natCast, BitVec.toNat_ofNat]; exact Nat.mod_eq_of_lt (by omega)
set_option maxRecDepth 100000 in
theorem landI_nat (a b : Nat) (ha : a < 64) (hb : b < 64) : landI (a : Int) (b : Int) = ((a &&& b : Nat) : Int) := by
  have hx : a &&& b < 2 ^ 6 := Nat.and_lt_two_pow _ (by omega)
  show IntKind.i64.wrap ((BitVec.ofInt 64 (a : Int) &&& BitVec.ofInt 64 (b : Int)).toNat : Int) = _
  rw [BitVec.toNat_and, ofInt_i64 a (by omega), ofInt_i64 b (by omega), IntKind.wrap_i64]
  omega
set_option maxRecDepth 100000 in
theorem landI_bd {a b : Int} (a0 : 0 ≤ a) (a1 : a ≤ 63) (b0 : 0 ≤ b) (b1 : b ≤ 63) : 0 ≤ landI a b ∧ landI a b ≤ 63 := by
  have h := landI_nat a.toNat b.toNat (by omega) (by omega)
  rw [Int.toNat_of_nonneg a0, Int.toNat_of_nonneg b0] at h
  have hx : a.toNat &&& b.toNat < 2 ^ 6 := Nat.and_lt_two_pow _ (by omega)
  rw [h]; omega
set_option maxRecDepth 100000 in
theorem top_le {sz : Int} (h1 : 1 ≤ sz) (h6 : sz ≤ 6) : topOf sz ≤ 63 := by
  have : sz = 1 ∨ sz = 2 ∨ sz = 3 ∨ sz = 4 ∨ sz = 5 ∨ sz = 6 := by omega
  rcases this with rfl | rfl | rfl | rfl | rfl | rfl <;> decide
set_option maxRecDepth 100000 in
theorem ok_size {sz : Int} {bs : List (Int × Int)} (h : appOk sz bs = true) : 1 ≤ sz ∧ sz ≤ 6 := by
  simp only [appOk, Bool.and_eq_true] at h; exact inR_iff.1 h.1
set_option maxRecDepth 100000 in
theorem ok_len {sz : Int} {bs : List (Int × Int)} (h : appOk sz bs = true) : bs.length ≤ 12 := by
  simp only [appOk, Bool.and_eq_true, decide_eq_true_eq] at h; exact h.2.1
set_option maxRecDepth 100000 in
theorem ok_at {sz : Int} {bs : List (Int × Int)} (h : appOk sz bs = true) {x : Int × Int} (hx : x ∈ bs) : 0 ≤ x.1 ∧ x.1 ≤ topOf sz ∧ x.1 ≤ 63 ∧ 1 ≤ x.2 ∧ x.2 ≤ 1000 := by
  obtain ⟨h1, h6⟩ := ok_size h
  have ht := top_le h1 h6
  simp only [appOk, Bool.and_eq_true, decide_eq_true_eq] at h
  have h2 := List.all_eq_true.1 h.2.2 x hx
  simp only [balOk, Bool.and_eq_true] at h2
  have h3 := inR_iff.1 h2.1
  have h4 := inR_iff.1 h2.2
  omega

def seatsFor (sz : Int) (bs : List (Int × Int)) (set ballot : Int) : Int :=
  if appOk sz bs && inR set 0 (topOf sz) && inR ballot 0 (bs.length - 1) then cntTo (landI (bs.getD ballot.toNat (0, 0)).1 set) 6 else -1

end Go.Proofs.YtilcdnkkabmbfaaGreat
