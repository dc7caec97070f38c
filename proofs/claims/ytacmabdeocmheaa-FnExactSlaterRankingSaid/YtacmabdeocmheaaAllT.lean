/- All rankings of the spec, from the start. -/
import Derived.Test.YtacmabdeocmheaaAllS
namespace Go.Proofs.Ytacmabdeocmheaa
open Go.RowKit

set_option maxRecDepth 100000 in
set_option maxHeartbeats 1000000 in
theorem allR_spec (w : World) (n : Nat) (n1 : 1 ≤ n) (n2 : n ≤ 5) :
    Calls Try.prog 134 #[.int .i64 n] w fun e w' => ∃ v, e = .returned v ∧ OwnSS w' w.heap.size v (allO n) ∧ Ext w w' := by
  have hin : inR (n : Int) 1 5 = true := inR_iff.2 (by omega)
  have h5 : 5 ^ n ≤ 3125 := Nat.pow_le_pow_right (n := 5) (by decide) n2
  go_enter Try.func134, Try.ntmps134
  go_wp2_with (go_at_call 113; refine (in_spec _ _ _ _).mono ?_; rintro e w1 ⟨rfl, hw1⟩)
  have hb : ([] : List (List Int)).length + 5 ^ n ≤ 10000 := by rw [List.length_nil]; omega
  have h1 := OwnSS.made0 w1
  have h2 := Ext.new w1 (.cells #[] 50)
  have hs : (w1.alloc (.cells #[] 50)).heap.size = w1.heap.size + 1 := by simp
  generalize w1.alloc (.cells #[] 50) = w2 at h1 h2 hs ⊢
  have h3 := OwnI.made0 w2
  have h4 := Ext.new w2 (.cells #[] 3)
  generalize w2.alloc (.cells #[] 3) = w3 at h3 h4 ⊢
  have h3 : OwnI w3 w2.heap.size (.slice (some ⟨w1.heap.size + 1, 0, none⟩) 0 0) [] := by rw [← hs]; exact h3
  have h := all_spec n n2 n [] w1 w2 w3 _ _ [] (Nat.zero_add n) h1 h2 h4 h3 hb
  refine h.mono ?_
  rintro e w4 ⟨v, rfl, hO, hE, _, _⟩
  rw [List.nil_append] at hO
  go_wp2
  go_ret
  exact ⟨_, rfl, hO.base hw1.size, hw1.trans hE⟩

end Go.Proofs.Ytacmabdeocmheaa
