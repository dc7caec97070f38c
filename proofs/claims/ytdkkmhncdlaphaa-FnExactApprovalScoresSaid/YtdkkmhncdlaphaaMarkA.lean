/- Approvals overwritten by marks. -/
import Derived.Test.YtdkkmhncdlaphaaList
import Derived.Test.YtdkkmhncdlaphaaLawB
namespace Go.Proofs.Ytdkkmhncdlaphaa
open Go.RowKit

set_option maxHeartbeats 1000000 in
theorem markAS (w : World) (g n c : Nat) (f : Nat → Value) (k0 : Int) (hB : BlkF w g (n * 2) f) (hn : n ≤ 1048576) (h0 : 0 ≤ k0) (h1 : k0 ≤ 2000000) :
    Calls Try.prog 53 #[.slice (some ⟨g, 0, none⟩) n c, .int .i64 k0] w fun e w' => e = .returned (.int .i64 (k0 + 2 * n)) ∧ Only g w w' := by
  go_enter Try.func53, Try.ntmps53
  go_wp2
  go_loopw [1, 5] (fun m i wr => ∃ (k : Nat) (f : Nat → Value), k ≤ n ∧ i = .int .i64 k ∧ m = .int .i64 (k0 + 2 * k) ∧ BlkF wr g (n * 2) f ∧ Only g w wr) (fun _ i _ => n - (intOf i).toNat)
  case atStart => exact ⟨0, f, Nat.zero_le _, rfl, by go_num, hB, Only.refl _ _⟩
  case round =>
    obtain ⟨k, f1, hk, rfl, rfl, hB1, hO⟩ := hrel
    by_cases hlt : k < n
    · have d0 := hB1.cell (k * 2) (by omega)
      have d1 := hB1.cell (k * 2 + 1) (by omega)
      have z0 := hB1.fr (k * 2)
      have z1 := hB1.fr (k * 2 + 1)
      go_wp2
      exact ⟨⟨k + 1, _, by omega, by go_num, by congr 1; omega, (hB1.set (k * 2) (by omega) _).set (k * 2 + 1) (by omega) _, (hO.setCell _ _).setCell _ _⟩, by simp [intOf]; omega⟩
    · obtain rfl : k = n := by omega
      go_wp2
      go_ret
      exact ⟨rfl, hO⟩

set_option maxHeartbeats 1000000 in
theorem markA (w : World) (sz : Int) (g n c : Nat) (f : Nat → Value) (k0 : Int) (hB : BlkF w g (n * 2) f) (hn : n ≤ 1048576) (h0 : 0 ≤ k0) (h1 : k0 ≤ 2000000) :
    Calls Try.prog 20 #[.agg #[.int .i64 sz, .slice (some ⟨g, 0, none⟩) n c], .int .i64 k0] w fun e w' => e = .returned (.int .i64 (k0 + 2 * n)) ∧ Only g w w' := by
  go_enter Try.func20, Try.ntmps20
  go_wp2_with fail
  refine (markAS _ g n c f k0 (hB.ext (by repeat (first | exact Ext.refl _ | assumption | refine Ext.alloc ?_ _ | refine Ext.drew ?_ | refine Ext.trans ?_ (by assumption)))) hn h0 h1).mono ?_
  rintro e w1 ⟨rfl, hw1⟩
  go_wp2
  go_ret
  exact ⟨rfl, (Only.of_ext (Ext.new _ _)).trans hw1⟩
end Go.Proofs.Ytdkkmhncdlaphaa
