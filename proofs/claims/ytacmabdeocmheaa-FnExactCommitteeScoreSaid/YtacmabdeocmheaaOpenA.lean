/- What the statements' reading of approvals says of memory. -/
import Derived.Test.YtacmabdeocmheaaOpenB
namespace Go.Proofs.Ytacmabdeocmheaa
open Go.ChangeShapes Go.WideShapes Go.ChangeAt Go.RowKit Go.Joins Go.Deep

set_option maxRecDepth 100000 in
theorem openA {H : Type} {enc : TypeId × Value → H} {W : World} {base : Nat} {spare : Nat → Bool} {held : Bool} {b0 : Nat} {v : Value} {d : DataW H} {p : List MemPlace}
    (hv : Value.okWide Try.prog W .any b0 24 v) (h : DataW.Trod enc Try.prog W base spare held 24 v d p) :
    ∃ (sz : Int) (a : Option Addr) (bs : List (Int × Int)) (c : Nat), v = .agg #[.int .i64 sz, .slice a bs.length c] ∧ RdP W a bs ∧ bs.length ≤ maxLen := by
  obtain ⟨c0, c1, y0, y1, n, rfl, -, -, h0, h1⟩ := open_agg2 Try.underlying24 (by kernel_rfl) (by kernel_rfl) hv h
  obtain ⟨sz, e0, hy0, _⟩ := DataW.trod_int Try.underlying3 h0
  simp at e0
  subst e0
  rcases open_slice_fields Try.underlying22 Try.underlying153 (by kernel_rfl) (by kernel_rfl) h1 with ⟨e1, _⟩ | ⟨a, len, cap, m, e1, _, hl, hm, hlm, hf⟩
  · simp at e1
    subst e1
    exact ⟨sz, none, [], 0, rfl, RdP.nil _ _, by simp⟩
  · simp at e1
    subst e1
    obtain ⟨bs, hbl, hbs⟩ := list_of (fun i (x : Int × Int) => W.cell? (a.add (i * 2)) = some (.int .i64 x.1) ∧ W.cell? (a.add (i * 2 + 1)) = some (.int .i64 x.2)) len (fun i hi => by
      obtain ⟨ys, n', hyl, hj⟩ := hf i (by omega)
      obtain ⟨u0, z0, g0, _, t0⟩ := hj 0 _ rfl
      obtain ⟨u1, z1, g1, _, t1⟩ := hj 1 _ rfl
      obtain ⟨x, ex, _, _⟩ := DataW.trod_int Try.underlying3 t0
      obtain ⟨y, ey, _, _⟩ := DataW.trod_int Try.underlying3 t1
      simp at ex ey
      subst ex ey
      exact ⟨(x, y), g0, g1⟩)
    subst hbl
    refine ⟨sz, some a, bs, cap, rfl, fun hne => ?_, by omega⟩
    have hpos : 0 < bs.length := List.length_pos_iff.2 hne
    obtain ⟨x, hx⟩ := at_of_lt hpos
    have hc := (hbs 0 x hx).1
    obtain ⟨b, off, spot⟩ := a
    have hspot : spot = none := by simpa [Addr.add] using World.cell?_spot hc
    subst hspot
    refine ⟨b, off, rfl, fun j y hy => ?_⟩
    have h2 := hbs j y hy
    rw [addr_add_none, addr_add_none] at h2
    exact h2

end Go.Proofs.Ytacmabdeocmheaa
