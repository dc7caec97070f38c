/- How many bits a small number has: the library's function at each of 64 numbers. -/
import Derived.Test.YtacmabdeocmheaaSmall
namespace Go.Proofs.Ytacmabdeocmheaa
open Go.RowKit

def bitAt (s : Int) (a : Nat) : Bool := s.toNat.testBit a
def cntTo (s : Int) (k : Nat) : Int := ((List.range k).countP (bitAt s) : Nat)
set_option maxRecDepth 100000 in
theorem cnt_hit {s : Int} {k : Nat} (h : bitAt s k = true) : cntTo s (k + 1) = cntTo s k + 1 := by
  simp [cntTo, List.range_succ, List.countP_append, h]
set_option maxRecDepth 100000 in
theorem cnt_miss {s : Int} {k : Nat} (h : bitAt s k = false) : cntTo s (k + 1) = cntTo s k := by
  simp [cntTo, List.range_succ, List.countP_append, h]
set_option maxRecDepth 100000 in
theorem cnt_bd (s : Int) (k : Nat) : 0 ≤ cntTo s k ∧ cntTo s k ≤ k := by
  unfold cntTo
  have h := List.countP_le_length (p := bitAt s) (l := List.range k)
  rw [List.length_range] at h
  omega
set_option maxRecDepth 100000 in
theorem sets {p : Int → Prop} (h : ∀ n : Nat, n < 64 → p (n : Int)) {s : Int} (h0 : 0 ≤ s) (h63 : s ≤ 63) : p s := by
  have := h s.toNat (by omega)
  rwa [Int.toNat_of_nonneg h0] at this
set_option maxRecDepth 100000 in
theorem pow_wrap {k : Nat} (h : k < 6) : wrap64 (2 ^ k) = 2 ^ k := by
  have : k = 0 ∨ k = 1 ∨ k = 2 ∨ k = 3 ∨ k = 4 ∨ k = 5 := by omega
  rcases this with rfl | rfl | rfl | rfl | rfl | rfl <;> exact IntWalk.wrap64_in _ (by decide)
set_option maxRecDepth 100000 in
theorem bit_spec {s : Int} (h0 : 0 ≤ s) (h63 : s ≤ 63) {k : Nat} (h : k < 6) : (bits BinOp.and IntKind.i64 s (2 ^ k) != 0) = bitAt s k := by
  refine sets (p := fun s => (bits BinOp.and IntKind.i64 s (2 ^ k) != 0) = bitAt s k) (fun n hn => ?_) h0 h63
  have : k = 0 ∨ k = 1 ∨ k = 2 ∨ k = 3 ∨ k = 4 ∨ k = 5 := by omega
  rcases this with rfl | rfl | rfl | rfl | rfl | rfl <;> revert n <;> decide

set_option maxRecDepth 100000 in
theorem and_u64 (a b : Int) : bits BinOp.and IntKind.u64 a b = IntKind.u64.wrap ((BitVec.ofInt 64 a &&& BitVec.ofInt 64 b).toNat : Int) := rfl
set_option maxRecDepth 100000 in
theorem and_i64 (a b : Int) : bits BinOp.and IntKind.i64 a b = IntKind.i64.wrap ((BitVec.ofInt 64 a &&& BitVec.ofInt 64 b).toNat : Int) := rfl

set_option maxRecDepth 100000 in
set_option maxHeartbeats 0 in
theorem ones64 (n : Nat) (hn : n < 64) (w : World) :
    Calls Try.prog 246 #[.int .u64 (n : Int)] w fun e w' => e = .returned (.int .i64 (cntTo (n : Int) 6)) ∧ Ext w w' := by
  have hb := and_u64
  have hw := IntKind.wrap_u64
  have hb' := and_i64
  have hw' := IntKind.wrap_i64
  have hc : n = 0 ∨ n = 1 ∨ n = 2 ∨ n = 3 ∨ n = 4 ∨ n = 5 ∨ n = 6 ∨ n = 7 ∨ n = 8 ∨ n = 9 ∨ n = 10 ∨ n = 11 ∨ n = 12 ∨ n = 13 ∨ n = 14 ∨ n = 15 ∨ n = 16 ∨ n = 17 ∨ n = 18 ∨ n = 19 ∨ n = 20 ∨ n = 21 ∨ n = 22 ∨ n = 23 ∨ n = 24 ∨ n = 25 ∨ n = 26 ∨ n = 27 ∨ n = 28 ∨ n = 29 ∨ n = 30 ∨ n = 31 ∨ n = 32 ∨ n = 33 ∨ n = 34 ∨ n = 35 ∨ n = 36 ∨ n = 37 ∨ n = 38 ∨ n = 39 ∨ n = 40 ∨ n = 41 ∨ n = 42 ∨ n = 43 ∨ n = 44 ∨ n = 45 ∨ n = 46 ∨ n = 47 ∨ n = 48 ∨ n = 49 ∨ n = 50 ∨ n = 51 ∨ n = 52 ∨ n = 53 ∨ n = 54 ∨ n = 55 ∨ n = 56 ∨ n = 57 ∨ n = 58 ∨ n = 59 ∨ n = 60 ∨ n = 61 ∨ n = 62 ∨ n = 63 := by omega
  rcases hc with rfl | rfl | rfl | rfl | rfl | rfl | rfl | rfl | rfl | rfl | rfl | rfl | rfl | rfl | rfl | rfl | rfl | rfl | rfl | rfl | rfl | rfl | rfl | rfl | rfl | rfl | rfl | rfl | rfl | rfl | rfl | rfl | rfl | rfl | rfl | rfl | rfl | rfl | rfl | rfl | rfl | rfl | rfl | rfl | rfl | rfl | rfl | rfl | rfl | rfl | rfl | rfl | rfl | rfl | rfl | rfl | rfl | rfl | rfl | rfl | rfl | rfl | rfl | rfl
  all_goals
    go_enter Try.func246, Try.ntmps246
    go_wp2
    go_ret
    exact ⟨ret_int (by decide), Ext.refl _⟩

end Go.Proofs.Ytacmabdeocmheaa
