/- slices.IndexFunc and ContainsFunc over lists of lists, with a function. -/
import Derived.Test.YtacmabdeocmheaaFun
import Derived.Test.YtacmabdeocmheaaMat
namespace Go.Proofs.Ytacmabdeocmheaa
open Go.RowKit

set_option maxRecDepth 100000 in
set_option maxHeartbeats 1000000 in
theorem indexFuncR (K : Nat) (fst cap : Array Value) (p : List Int → Bool) (w : World) (B : Nat) (a : Option Addr) (c : Nat) (xss : List (List Int)) (hR : RdSS w B (.slice a xss.length c) xss) (hl : xss.length ≤ 2000000) (hK : Enters Try.prog K)
    (hf : ∀ (xs : List Int) (a' : Option Addr) (c' : Nat) (w' : World), xs ∈ xss → RdI w' a' xs → Ext w w' → Calls Try.prog K (fst.push (.slice a' xs.length c') ++ cap) w' fun e w'' => e = .returned (.bool (p xs)) ∧ Ext w' w'') :
    Calls Try.prog 239 #[.slice a xss.length c, .func (.func K) fst cap] w fun e w' => e = .returned (.int .i64 (findI p xss)) ∧ Ext w w' := by
  unfold Enters at hK
  have HF := hide hf
  clear hf
  go_enter Try.func239, Try.ntmps239
  go_wp2_with fail
  go_loopw [5, 8] (fun _ i wr => ∃ k : Nat, k ≤ xss.length ∧ i = .int .i64 k ∧ Hid ((xss.take k).all (fun x => !p x) = true) ∧ Ext w wr) (fun _ i _ => xss.length - (intOf i).toNat)
  case atStart => exact ⟨0, Nat.zero_le _, rfl, rfl, Ext.refl _⟩
  case round =>
    obtain ⟨k, hk, rfl, hall, hwr⟩ := hrel
    by_cases hlt : k < xss.length
    · obtain ⟨x, hx⟩ := at_of_lt hlt
      obtain ⟨b, off, a', c', rfl, c0, hRx⟩ := (hR.ext hwr).at_ hx
      have HX := hide hx
      clear hx
      cases hp : p x
      all_goals
        go_wp2_with fail
        refine (HF.out x a' c' wr (List.mem_of_getElem? HX.out) hRx hwr).mono ?_
        rintro e w1 ⟨rfl, hw1⟩
        go_wp2
      · exact ⟨⟨k + 1, by omega, by go_num, (all_take HX.out hall.out).trans (by simp [hp]), hwr.trans hw1⟩, by simp [intOf]; omega⟩
      · go_ret
        exact ⟨ret_int (findI_some HX.out hall.out hp).symm, hwr.trans hw1⟩
    · go_wp2
      go_ret
      exact ⟨ret_int (findI_none (all_whole (by omega) hall.out)).symm, hwr⟩

set_option maxRecDepth 100000 in
set_option maxHeartbeats 1000000 in
theorem containsFuncR (K : Nat) (fst cap : Array Value) (p : List Int → Bool) (w : World) (B : Nat) (a : Option Addr) (c : Nat) (xss : List (List Int)) (hR : RdSS w B (.slice a xss.length c) xss) (hl : xss.length ≤ 2000000) (hK : Enters Try.prog K)
    (hf : ∀ (xs : List Int) (a' : Option Addr) (c' : Nat) (w' : World), xs ∈ xss → RdI w' a' xs → Ext w w' → Calls Try.prog K (fst.push (.slice a' xs.length c') ++ cap) w' fun e w'' => e = .returned (.bool (p xs)) ∧ Ext w' w'') :
    Calls Try.prog 149 #[.slice a xss.length c, .func (.func K) fst cap] w fun e w' => e = .returned (.bool (xss.any p)) ∧ Ext w w' := by
  have H := hide (indexFuncR K fst cap p w B a c xss hR hl hK hf)
  clear hf
  go_enter Try.func149, Try.ntmps149
  go_wp2_with fail
  refine H.out.mono ?_
  rintro e w1 ⟨rfl, hw1⟩
  go_wp2
  go_ret
  exact ⟨ret_bool (findI_nonneg p xss), hw1⟩

end Go.Proofs.Ytacmabdeocmheaa
