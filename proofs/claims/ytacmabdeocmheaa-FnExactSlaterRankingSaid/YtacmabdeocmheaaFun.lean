/- The library's searches over integers with a function. -/
import Derived.Test.YtacmabdeocmheaaRank
namespace Go.Proofs.Ytacmabdeocmheaa
open Go.RowKit

set_option maxRecDepth 100000 in
set_option maxHeartbeats 1000000 in
theorem indexFuncI (K : Nat) (fst cap : Array Value) (p : Int → Bool) (w : World) (a : Option Addr) (c : Nat) (xs : List Int) (hR : RdI w a xs) (hl : xs.length ≤ 2000000) (hK : Enters Try.prog K)
    (hf : ∀ (x : Int) (w' : World), x ∈ xs → Ext w w' → Calls Try.prog K (fst.push (.int .i64 x) ++ cap) w' fun e w'' => e = .returned (.bool (p x)) ∧ Ext w' w'') :
    Calls Try.prog 147 #[.slice a xs.length c, .func (.func K) fst cap] w fun e w' => e = .returned (.int .i64 (findI p xs)) ∧ Ext w w' := by
  unfold Enters at hK
  have HF := hide hf
  clear hf
  go_enter Try.func147, Try.ntmps147
  go_wp2_with fail
  go_loopw [5, 8] (fun _ i wr => ∃ k : Nat, k ≤ xs.length ∧ i = .int .i64 k ∧ Hid ((xs.take k).all (fun x => !p x) = true) ∧ Ext w wr) (fun _ i _ => xs.length - (intOf i).toNat)
  case atStart => exact ⟨0, Nat.zero_le _, rfl, rfl, Ext.refl _⟩
  case round =>
    obtain ⟨k, hk, rfl, hall, hwr⟩ := hrel
    by_cases hlt : k < xs.length
    · obtain ⟨x, hx⟩ := at_of_lt hlt
      obtain ⟨b, off, rfl, c0⟩ := (hR.ext hwr).at_ hx
      have HX := hide hx
      clear hx
      cases hp : p x
      all_goals
        go_wp2_with fail
        refine (HF.out x wr (List.mem_of_getElem? HX.out) hwr).mono ?_
        rintro e w1 ⟨rfl, hw1⟩
        go_wp2
      · exact ⟨⟨k + 1, by omega, by go_num, (all_take HX.out hall.out).trans (by simp [hp]), hwr.trans hw1⟩, by simp [intOf]; omega⟩
      · go_ret
        exact ⟨ret_int (findI_some HX.out hall.out hp).symm, hwr.trans hw1⟩
    · go_wp2
      go_ret
      exact ⟨ret_int (findI_none (all_whole (by omega) hall.out)).symm, hwr⟩

set_option maxRecDepth 100000 in
set_option maxHeartbeats 1000000 in
theorem containsFuncI (K : Nat) (fst cap : Array Value) (p : Int → Bool) (w : World) (a : Option Addr) (c : Nat) (xs : List Int) (hR : RdI w a xs) (hl : xs.length ≤ 2000000) (hK : Enters Try.prog K)
    (hf : ∀ (x : Int) (w' : World), x ∈ xs → Ext w w' → Calls Try.prog K (fst.push (.int .i64 x) ++ cap) w' fun e w'' => e = .returned (.bool (p x)) ∧ Ext w' w'') :
    Calls Try.prog 255 #[.slice a xs.length c, .func (.func K) fst cap] w fun e w' => e = .returned (.bool (xs.any p)) ∧ Ext w w' := by
  have H := hide (indexFuncI K fst cap p w a c xs hR hl hK hf)
  clear hf
  go_enter Try.func255, Try.ntmps255
  go_wp2_with fail
  refine H.out.mono ?_
  rintro e w1 ⟨rfl, hw1⟩
  go_wp2
  go_ret
  exact ⟨ret_bool (findI_nonneg p xs), hw1⟩

set_option maxRecDepth 100000 in
set_option maxHeartbeats 1000000 in
theorem allInOne (w : World) (g1 g2 : Nat) (x lo hi : Int) (h1 : w.cell? ⟨g1, 0, none⟩ = some (.int .i64 lo)) (h2 : w.cell? ⟨g2, 0, none⟩ = some (.int .i64 hi)) :
    Calls Try.prog 256 #[.int .i64 x, .pointer (some ⟨g1, 0, none⟩), .pointer (some ⟨g2, 0, none⟩)] w fun e w' => e = .returned (.bool (!inR x lo hi)) ∧ Ext w w' := by
  go_enter Try.func256, Try.ntmps256
  go_wp2_with (go_at_call 160; refine (in_impl _ _ _ _).mono ?_; rintro e w1 ⟨rfl, hw1⟩)
  go_ret
  exact ⟨rfl, (by repeat (first | exact Ext.refl _ | assumption | refine Ext.alloc ?_ _ | refine Ext.drew ?_ | refine Ext.trans ?_ (by assumption)))⟩

set_option maxRecDepth 100000 in
set_option maxHeartbeats 1000000 in
theorem allIn_impl (w : World) (a : Option Addr) (c : Nat) (xs : List Int) (lo hi : Int) (hR : RdI w a xs) (hl : xs.length ≤ 2000000) :
    Calls Try.prog 188 #[.slice a xs.length c, .int .i64 lo, .int .i64 hi] w fun e w' => e = .returned (.bool (xs.all (fun x => inR x lo hi))) ∧ Ext w w' := by
  have hs1 : (w.alloc (.cells #[.int .i64 lo] 3)).heap.size = w.heap.size + 1 := by simp
  have p0 := Ext.keep (Ext.new _ (.cells #[.int .i64 hi] 3)) (new0 w (.int .i64 lo) [] 3)
  have p1 := new0 (w.alloc (.cells #[.int .i64 lo] 3)) (.int .i64 hi) [] 3
  rw [hs1] at p1
  clear hs1
  go_enter Try.func188, Try.ntmps188
  go_wp2_with fail
  refine (containsFuncI 256 #[] #[.pointer (some ⟨w.heap.size, 0, none⟩), .pointer (some ⟨w.heap.size + 1, 0, none⟩)] (fun x => !inR x lo hi) _ a c xs (hR.ext (by repeat (first | exact Ext.refl _ | assumption | refine Ext.alloc ?_ _ | refine Ext.drew ?_ | refine Ext.trans ?_ (by assumption)))) hl Try.call256
    (fun x w' _ hw' => allInOne w' _ _ x lo hi (hw'.keep p0) (hw'.keep p1))).mono ?_
  rintro e w1 ⟨rfl, hw1⟩
  go_wp2
  go_ret
  exact ⟨ret_bool (by rw [any_not]; simp), (by repeat (first | exact Ext.refl _ | assumption | refine Ext.alloc ?_ _ | refine Ext.drew ?_ | refine Ext.trans ?_ (by assumption)))⟩

end Go.Proofs.Ytacmabdeocmheaa
