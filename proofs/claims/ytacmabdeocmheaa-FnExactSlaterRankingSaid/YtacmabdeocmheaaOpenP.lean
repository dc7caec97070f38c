/- What the statements' reading of profiles says of memory. -/
import Derived.Test.YtacmabdeocmheaaOpenB
import Derived.Test.YtacmabdeocmheaaVotes
namespace Go.Proofs.Ytacmabdeocmheaa
open Go.ChangeShapes Go.WideShapes Go.ChangeAt Go.RowKit Go.Joins Go.Deep

section
variable {H : Type} {enc : TypeId × Value → H} {W : World} {base : Nat} {spare : Nat → Bool} {held : Bool} {b0 : Nat}
set_option maxRecDepth 100000 in
theorem openI_trod {fuel : Nat} {v : Value} {x : DataW H × List MemPlace} (h : DataW.trod enc Try.prog W base spare held fuel 50 [v] = some x) :
    ∃ (a : Option Addr) (xs : List Int) (c : Nat), v = .slice a xs.length c ∧ RdI W a xs ∧ xs.length ≤ c ∧ xs.length ≤ maxLen := by
  rcases open_ints Try.underlying50 Try.underlying3 (by kernel_rfl) h with ⟨e1, _⟩ | ⟨a, len, cap, zs, e1, _, hl, hm, hzl, _, hc, _⟩
  · simp at e1
    subst e1
    exact ⟨none, [], 0, rfl, RdI.nil _ _, Nat.le_refl _, by simp⟩
  · simp at e1
    subst e1
    have hle : len ≤ zs.length := by rw [hzl]; split <;> omega
    have htl : (zs.take len).length = len := by simp; omega
    refine ⟨some a, zs.take len, cap, by rw [htl], fun hne => ?_, by omega, by omega⟩
    have hpos : 0 < len := by have := List.length_pos_iff.2 hne; omega
    have h0 := hc 0 (by omega)
    obtain ⟨b, off, spot⟩ := a
    have hspot : spot = none := by simpa [Addr.add] using World.cell?_spot h0
    subst hspot
    refine ⟨b, off, rfl, fun j y hy => ?_⟩
    have hj := lt_of_at hy
    rw [htl] at hj
    have h2 := hc j (by omega)
    rw [addr_add_none] at h2
    rw [h2]
    rw [List.getElem?_take_of_lt hj] at hy
    simp [List.getD, hy]

set_option maxRecDepth 100000 in
theorem openIS {v : Value} {d : DataW H} {p : List MemPlace} (hv : Value.okWide Try.prog W .any b0 50 v) (h : DataW.Trod enc Try.prog W base spare held 50 v d p) :
    ∃ (a : Option Addr) (xs : List Int) (c : Nat), v = .slice a xs.length c ∧ RdI W a xs ∧ xs.length ≤ maxLen := by
  obtain ⟨m, hm⟩ := h
  obtain ⟨_, _, _, rfl⟩ := okWide_slice Try.underlying50 hv
  obtain ⟨a, xs, c, hv, hR, _, hl⟩ := openI_trod hm
  exact ⟨a, xs, c, hv, hR, hl⟩

set_option maxRecDepth 100000 in
theorem openP {v : Value} {d : DataW H} {p : List MemPlace}
    (hv : Value.okWide Try.prog W .any b0 39 v) (h : DataW.Trod enc Try.prog W base spare held 39 v d p) :
    ∃ (sz : Int) (a : Option Addr) (vs : List Vt) (c : Nat), v = .agg #[.int .i64 sz, .slice a vs.length c] ∧ RdV W a vs ∧ vs.length ≤ maxLen ∧ ∀ x ∈ vs, x.1.length ≤ maxLen := by
  obtain ⟨c0, c1, y0, y1, n, rfl, -, -, h0, h1⟩ := open_agg2 Try.underlying39 (by kernel_rfl) (by kernel_rfl) hv h
  obtain ⟨sz, e0, hy0, _⟩ := DataW.trod_int Try.underlying3 h0
  simp at e0
  subst e0
  rcases open_slice_fields Try.underlying37 Try.underlying156 (by kernel_rfl) (by kernel_rfl) h1 with ⟨e1, _⟩ | ⟨a, len, cap, m, e1, _, hl, hm, hlm, hf⟩
  · simp at e1
    subst e1
    exact ⟨sz, none, [], 0, rfl, RdV.nil _ _, by simp, by simp⟩
  · simp at e1
    subst e1
    obtain ⟨vs, hbl, hbs⟩ := list_of (fun i (x : Vt) => ∃ a' c', W.cell? (a.add (i * 2)) = some (.slice a' x.1.length c') ∧ W.cell? (a.add (i * 2 + 1)) = some (.int .i64 x.2) ∧ x.1.length ≤ c' ∧ RdI W a' x.1 ∧ x.1.length ≤ maxLen) len (fun i hi => by
      obtain ⟨ys, n', hyl, hj⟩ := hf i (by omega)
      obtain ⟨u0, z0, g0, _, t0⟩ := hj 0 _ rfl
      obtain ⟨u1, z1, g1, _, t1⟩ := hj 1 _ rfl
      obtain ⟨a', xs, c', rfl, hR, k0, k1⟩ := openI_trod t0
      obtain ⟨y, ey, _, _⟩ := DataW.trod_int Try.underlying3 t1
      simp at ey
      subst ey
      exact ⟨(xs, y), a', c', g0, g1, k0, hR, k1⟩)
    subst hbl
    refine ⟨sz, some a, vs, cap, rfl, fun hne => ?_, by omega, fun x hx => ?_⟩
    · have hpos : 0 < vs.length := List.length_pos_iff.2 hne
      obtain ⟨x, hx⟩ := at_of_lt hpos
      obtain ⟨_, _, hc, _⟩ := hbs 0 x hx
      obtain ⟨b, off, spot⟩ := a
      have hspot : spot = none := by simpa [Addr.add] using World.cell?_spot hc
      subst hspot
      refine ⟨b, off, rfl, fun j y hy => ?_⟩
      obtain ⟨a', c', h2, h3, h4, h5, _⟩ := hbs j y hy
      rw [addr_add_none] at h2 h3
      exact ⟨a', c', h2, h3, h4, h5⟩
    · obtain ⟨j, hj⟩ := List.getElem?_of_mem hx
      obtain ⟨_, _, _, _, _, _, h6⟩ := hbs j x hj
      exact h6
end

end Go.Proofs.Ytacmabdeocmheaa
