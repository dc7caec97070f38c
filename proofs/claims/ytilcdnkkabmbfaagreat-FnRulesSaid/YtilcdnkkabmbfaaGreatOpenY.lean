/- What the statements' reading of bytes says of memory. -/
import Derived.Test.YtilcdnkkabmbfaaGreatCk27
import Derived.Test.YtilcdnkkabmbfaaGreatCur
namespace Go.Proofs.YtilcdnkkabmbfaaGreat
open Go.ChangeShapes Go.WideShapes Go.ChangeAt Go.RowKit Go.Joins Go.Deep

section
variable {H : Type} {enc : TypeId × Value → H} {W : World} {base : Nat} {spare : Nat → Bool} {held : Bool} {b0 : Nat}
set_option maxRecDepth 100000 in
theorem openY_trod {fuel : Nat} {v : Value} {x : DataW H × List MemPlace} (h : DataW.trod enc Tryz.prog W base spare held fuel 33 [v] = some x) :
    ∃ (a : Option Addr) (xs : List Int) (c : Nat), v = .slice a xs.length c ∧ RdY W a xs ∧ xs.length ≤ c ∧ xs.length ≤ maxLen := by
  rcases open_ints Tryz.underlying33 Tryz.underlying5 (by kernel_rfl) h with ⟨e1, _⟩ | ⟨a, len, cap, zs, e1, _, hl, hm, hzl, _, hc, _⟩
  · simp at e1
    subst e1
    exact ⟨none, [], 0, rfl, fun h => absurd rfl h, Nat.le_refl _, by simp⟩
  · simp at e1
    subst e1
    have hle : len ≤ zs.length := by rw [hzl]; split <;> omega
    have htl : (zs.take len).length = len := by simp; omega
    refine ⟨some a, zs.take len, cap, by rw [htl], fun hne => ?_, by omega, by omega⟩
    have hpos : 0 < len := by have := List.length_pos_iff.2 hne; omega
    have h0 := hc 0 (by omega)
    obtain ⟨b, off, spot⟩ := a
    have hspot : spot = none := by simpa [Addr.add] using World.cell?_spot h0
    subst hspot
    refine ⟨b, off, rfl, fun j y hy => ?_⟩
    have hj := lt_of_at hy
    rw [htl] at hj
    have h2 := hc j (by omega)
    rw [addr_add_none] at h2
    rw [h2]
    rw [List.getElem?_take_of_lt hj] at hy
    simp [List.getD, hy]

set_option maxRecDepth 100000 in
theorem openY {v : Value} {d : DataW H} {p : List MemPlace} (hv : Value.okWide Tryz.prog W .any b0 33 v) (h : DataW.Trod enc Tryz.prog W base spare held 33 v d p) :
    ∃ (a : Option Addr) (bs : List Int) (c : Nat), v = .slice a bs.length c ∧ RdY W a bs ∧ bs.length ≤ maxLen := by
  obtain ⟨m, hm⟩ := h
  obtain ⟨_, _, _, rfl⟩ := okWide_slice Tryz.underlying33 hv
  obtain ⟨a, xs, c, hv, hR, _, hl⟩ := openY_trod hm
  exact ⟨a, xs, c, hv, hR, hl⟩
end

end Go.Proofs.YtilcdnkkabmbfaaGreat
