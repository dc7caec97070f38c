/- The library's searches over approvals, with a function value that only adds memory. -/
import Derived.Test.YtacmabdeocmheaaOk
import Derived.Test.YtacmabdeocmheaaFindI
namespace Go.Proofs.Ytacmabdeocmheaa
open Go.RowKit

set_option maxRecDepth 100000 in
set_option maxHeartbeats 1000000 in
theorem indexFuncP (K : Nat) (fst cap : Array Value) (p : Int × Int → Bool) (w : World) (a : Option Addr) (c : Nat) (bs : List (Int × Int)) (hR : RdP w a bs) (hl : bs.length ≤ 2000000) (hK : Enters Try.prog K)
    (hf : ∀ (x : Int × Int) (w' : World), x ∈ bs → Ext w w' → Calls Try.prog K (fst.push (.agg #[.int .i64 x.1, .int .i64 x.2]) ++ cap) w' fun e w'' => e = .returned (.bool (p x)) ∧ Ext w' w'') :
    Calls Try.prog 243 #[.slice a bs.length c, .func (.func K) fst cap] w fun e w' => e = .returned (.int .i64 (findI p bs)) ∧ Ext w w' := by
  unfold Enters at hK
  have HF := hide hf
  clear hf
  go_enter Try.func243, Try.ntmps243
  go_wp2_with fail
  go_loopw [5, 8] (fun _ i wr => ∃ k : Nat, k ≤ bs.length ∧ i = .int .i64 k ∧ (bs.take k).all (fun x => !p x) = true ∧ Ext w wr) (fun _ i _ => bs.length - (intOf i).toNat)
  case atStart => exact ⟨0, Nat.zero_le _, rfl, rfl, Ext.refl _⟩
  case round =>
    obtain ⟨k, hk, rfl, hall, hwr⟩ := hrel
    by_cases hlt : k < bs.length
    · obtain ⟨x, hx⟩ := at_of_lt hlt
      obtain ⟨b, off, rfl, c0, c1⟩ := (hR.ext hwr).at_ hx
      cases hp : p x
      all_goals
        go_wp2_with fail
        refine (HF.out x wr (List.mem_of_getElem? hx) hwr).mono ?_
        rintro e w1 ⟨rfl, hw1⟩
        go_wp2
      · exact ⟨⟨k + 1, by omega, by go_num, (all_take hx hall).trans (by simp [hp]), hwr.trans hw1⟩, by simp [intOf]; omega⟩
      · go_ret
        exact ⟨ret_int (findI_some hx hall hp).symm, hwr.trans hw1⟩
    · go_wp2
      go_ret
      exact ⟨ret_int (findI_none (all_whole (by omega) hall)).symm, hwr⟩

set_option maxRecDepth 100000 in
set_option maxHeartbeats 1000000 in
theorem containsFuncP (K : Nat) (fst cap : Array Value) (p : Int × Int → Bool) (w : World) (a : Option Addr) (c : Nat) (bs : List (Int × Int)) (hR : RdP w a bs) (hl : bs.length ≤ 2000000) (hK : Enters Try.prog K)
    (hf : ∀ (x : Int × Int) (w' : World), x ∈ bs → Ext w w' → Calls Try.prog K (fst.push (.agg #[.int .i64 x.1, .int .i64 x.2]) ++ cap) w' fun e w'' => e = .returned (.bool (p x)) ∧ Ext w' w'') :
    Calls Try.prog 161 #[.slice a bs.length c, .func (.func K) fst cap] w fun e w' => e = .returned (.bool (bs.any p)) ∧ Ext w w' := by
  have H := hide (indexFuncP K fst cap p w a c bs hR hl hK hf)
  clear hf
  go_enter Try.func161, Try.ntmps161
  go_wp2_with fail
  refine H.out.mono ?_
  rintro e w1 ⟨rfl, hw1⟩
  go_wp2
  go_ret
  exact ⟨ret_bool (findI_nonneg p bs), hw1⟩

end Go.Proofs.Ytacmabdeocmheaa
