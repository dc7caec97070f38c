/- Counting the members of a set. -/
import Derived.Test.YtacmabdeocmheaaOnes
namespace Go.Proofs.Ytacmabdeocmheaa
open Go.RowKit

set_option maxRecDepth 100000 in
set_option maxHeartbeats 1000000 in
theorem cnt_spec (w : World) (s : Int) (h0 : 0 ≤ s) (h63 : s ≤ 63) :
    Calls Try.prog 224 #[.int .i64 s] w fun e w' => e = .returned (.int .i64 (cntTo s 6)) ∧ Ext w w' := by
  go_enter Try.func224, Try.ntmps224
  go_wp2_with fail
  go_loopw [3, 4] (fun n i wr => ∃ k : Nat, k ≤ 6 ∧ i = .int .i64 k ∧ n = .int .i64 (cntTo s k) ∧ Ext w wr) (fun _ i _ => 6 - (intOf i).toNat)
  case atStart => exact ⟨0, by omega, rfl, rfl, Ext.refl _⟩
  case round =>
    obtain ⟨k, hk, rfl, rfl, hwr⟩ := hrel
    obtain ⟨hb1, hb2⟩ := cnt_bd s k
    by_cases hlt : k < 6
    · have hpw := pow_wrap hlt
      have hbit := bit_spec h0 h63 hlt
      cases hb : bitAt s k
      · go_wp2
        exact ⟨⟨k + 1, by omega, by go_num, by rw [cnt_miss hb], hwr⟩, by simp [intOf]; omega⟩
      · go_wp2
        exact ⟨⟨k + 1, by omega, by go_num, by rw [cnt_hit hb], hwr⟩, by simp [intOf]; omega⟩
    · obtain rfl : k = 6 := by omega
      go_wp2
      go_ret
      exact ⟨rfl, hwr⟩

set_option maxRecDepth 100000 in
set_option maxHeartbeats 1000000 in
theorem onesW (n : Nat) (hn : n < 64) (w : World) :
    Calls Try.prog 169 #[.int .u64 (n : Int)] w fun e w' => e = .returned (.int .i64 (cntTo (n : Int) 6)) ∧ Ext w w' := by
  go_enter Try.func169, Try.ntmps169
  go_wp2_with (go_at_call 246; refine (ones64 n hn _).mono ?_; rintro e w1 ⟨rfl, hw1⟩; have hc1 := hw1.cellS; have hf1 := hw1.frozenS)
  go_ret
  exact ⟨rfl, hw1⟩

set_option maxRecDepth 100000 in
set_option maxHeartbeats 1000000 in
theorem size_impl (w : World) (s : Int) (h0 : 0 ≤ s) (h63 : s ≤ 63) :
    Calls Try.prog 52 #[.int .i64 s] w fun e w' => e = .returned (.int .i64 (cntTo s 6)) ∧ Ext w w' := by
  refine sets (p := fun s => Calls Try.prog 52 #[.int .i64 s] w fun e w' => e = .returned (.int .i64 (cntTo s 6)) ∧ Ext w w') (fun n hn => ?_) h0 h63
  have hin : inR (n : Int) 0 63 = true := inR_iff.2 (by omega)
  have hcv : IntKind.u64.wrap (n : Int) = (n : Int) := by rw [IntKind.wrap_u64]; omega
  go_enter Try.func52, Try.ntmps52
  go_wp2_with (first | (go_at_call 160; refine (in_impl _ _ _ _).mono ?_; rintro e w1 ⟨rfl, hw1⟩; have hc1 := hw1.cellS; have hf1 := hw1.frozenS) | (go_at_call 169; refine (onesW n hn _).mono ?_; rintro e w1 ⟨rfl, hw1⟩; have hc1 := hw1.cellS; have hf1 := hw1.frozenS))
  go_ret
  exact ⟨rfl, (by repeat (first | exact Ext.refl _ | assumption | refine Ext.alloc ?_ _ | refine Ext.drew ?_ | refine Ext.trans ?_ (by assumption)))⟩

end Go.Proofs.Ytacmabdeocmheaa
