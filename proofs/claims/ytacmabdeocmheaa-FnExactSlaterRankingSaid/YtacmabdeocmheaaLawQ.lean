/- Profiles copied whole. -/
import Derived.Test.YtacmabdeocmheaaEqP
namespace Go.Proofs.Ytacmabdeocmheaa
open Go.RowKit

set_option maxRecDepth 100000 in
theorem SzOk.bd {vs : List Vt} {r : Int} (h : SzOk 1048576 vs r) (hr : ¬ r < 0) : vs.length ≤ 1048576 ∧ ∀ x ∈ vs, x.1.length ≤ 1048576 := by
  rcases h with h | ⟨_, h1, h2⟩
  · exact absurd h hr
  · refine ⟨by omega, fun x hx => ?_⟩
    have := h2 x hx
    omega

set_option maxRecDepth 100000 in
theorem OwnV.mono {w : World} {lo lo' hi hi' g k : Nat} {vs : List Vt} (h : OwnV w lo hi g vs k) (h1 : lo' ≤ lo) (h2 : hi ≤ hi') : OwnV w lo' hi' g vs k := by
  obtain ⟨f, h, a1, a2, hB, hj⟩ := h
  refine ⟨f, h, by omega, by omega, hB, fun j x hk hx => ?_⟩
  obtain ⟨b0, b1, b2, b3, b4, b5⟩ := hj j x hk hx
  exact ⟨b0, b1, b2, by omega, b4, b5⟩
set_option maxRecDepth 100000 in
theorem OwnV.far {w : World} {lo hi g k : Nat} {vs : List Vt} (h : OwnV w lo hi g vs k) {p : Addr} (hp : p.block < lo) (v : Value) : OwnV (w.setCell p v) lo hi g vs k := by
  obtain ⟨f, h, a1, a2, hB, hj⟩ := h
  refine ⟨f, h, by omega, by omega, hB.far (by omega) v, fun j x hk hx => ?_⟩
  obtain ⟨b0, b1, b2, b3, b4, fi, b5, b6⟩ := hj j x hk hx
  exact ⟨b0, b1, b2, b3, b4, fi, b5.far (by omega) v, b6⟩

set_option maxRecDepth 100000 in
set_option maxHeartbeats 1000000 in
theorem toP (w : World) (sz : Int) (a : Option Addr) (c : Nat) (vs : List Vt) (hR : RdV w a vs) (hl : vs.length ≤ 1048576) (hm : ∀ x ∈ vs, x.1.length ≤ 1048576) :
    Calls Try.prog 23 #[.agg #[.int .i64 sz, .slice a vs.length c]] w fun e w' => ∃ g, e = .returned (.agg #[.int .i64 sz, .slice (some ⟨g, 0, none⟩) vs.length vs.length]) ∧
      OwnV w' w.heap.size w'.heap.size g vs vs.length ∧ Ext w w' := by
  go_enter Try.func23, Try.ntmps23
  go_wp2_with fail
  refine (toVS _ _ _ _ (hR.ext (by repeat (first | exact Ext.refl _ | assumption | refine Ext.alloc ?_ _ | refine Ext.drew ?_ | refine Ext.trans ?_ (by assumption)))) hl hm).mono ?_
  rintro e w1 ⟨g, rfl, hO, hw1⟩
  have p0 := hw1.keep (p := ⟨w.heap.size + 1 + 1, 0, none⟩) (v := .int .i64 sz) (by go_simp)
  have p1 := hw1.keep (p := ⟨w.heap.size + 1 + 1, 1, none⟩) (v := .slice none 0 0) (by go_simp)
  have p2 := hw1.keep (p := ⟨w.heap.size + 1, 0, none⟩) (v := .int .i64 0) (by go_simp)
  have p3 := hw1.keep (p := ⟨w.heap.size + 1, 1, none⟩) (v := .slice none 0 0) (by go_simp)
  have z1 : w1.frozen? ⟨w.heap.size + 1 + 1, 1, none⟩ = false := (hw1.frozenS _ (by go_simp)).trans (by go_simp)
  have z2 : w1.frozen? ⟨w.heap.size + 1, 0, none⟩ = false := (hw1.frozenS _ (by go_simp)).trans (by go_simp)
  have z3 : w1.frozen? ⟨w.heap.size + 1, 1, none⟩ = false := (hw1.frozenS _ (by go_simp)).trans (by go_simp)
  have HO := hide hO
  clear hO
  go_wp2
  refine bodyPost_ret (v := .agg #[.int .i64 sz, .slice (some ⟨g, 0, none⟩) vs.length vs.length]) (by simp [results, Try.results23, go_sem, p2, p3]) rfl ⟨g, rfl, ?_, ?_⟩
  · have hO := HO.out
    exact (((hO.far (by simp) _).far (by simp) _).far (by simp) _).mono (by simp; omega) (by simp [World.setCell])
  · exact ((((by simpa using hw1.a.a.a : Ext w w1).setCell (by simp; omega) _).setCell (by simp) _).setCell (by simp) _)

set_option maxRecDepth 100000 in
theorem toP_rd (w : World) (sz : Int) (a : Option Addr) (c : Nat) (vs : List Vt) (hR : RdV w a vs) (hl : vs.length ≤ 1048576) (hm : ∀ x ∈ vs, x.1.length ≤ 1048576) :
    Calls Try.prog 23 #[.agg #[.int .i64 sz, .slice a vs.length c]] w fun e w' => ∃ a', e = .returned (.agg #[.int .i64 sz, .slice a' vs.length vs.length]) ∧ RdV w' a' vs ∧ Ext w w' :=
  (toP w sz a c vs hR hl hm).mono fun _ _ ⟨g, he, hO, hw⟩ => ⟨some ⟨g, 0, none⟩, he, hO.rd, hw⟩

/-- What the copy of a profile is good for: it may be marked. -/
def MkP (w : World) (lo hi : Nat) (a : Option Addr) (vs : List Vt) : Prop := ∃ g, a = some ⟨g, 0, none⟩ ∧ OwnV w lo hi g vs vs.length
set_option maxRecDepth 100000 in
theorem MkP.ext {w w' : World} {lo hi : Nat} {a : Option Addr} {vs : List Vt} (h : MkP w lo hi a vs) (hw : Ext w w') : MkP w' lo hi a vs := by
  obtain ⟨g, ha, hO⟩ := h
  exact ⟨g, ha, hO.ext hw⟩
set_option maxRecDepth 100000 in
theorem toP_mk (w : World) (sz : Int) (a : Option Addr) (c : Nat) (vs : List Vt) (hR : RdV w a vs) (hl : vs.length ≤ 1048576) (hm : ∀ x ∈ vs, x.1.length ≤ 1048576) :
    Calls Try.prog 23 #[.agg #[.int .i64 sz, .slice a vs.length c]] w fun e w' => ∃ a', e = .returned (.agg #[.int .i64 sz, .slice a' vs.length vs.length]) ∧ RdV w' a' vs ∧ MkP w' w.heap.size w'.heap.size a' vs ∧ Ext w w' :=
  (toP w sz a c vs hR hl hm).mono fun _ _ ⟨g, he, hO, hw⟩ => ⟨some ⟨g, 0, none⟩, he, hO.rd, ⟨g, rfl, hO⟩, hw⟩
set_option maxRecDepth 100000 in
theorem markP_mk (w : World) (sz : Int) (lo hi : Nat) (a : Option Addr) (c : Nat) (vs : List Vt) (h : MkP w lo hi a vs) (hl : vs.length ≤ 1048576) (hm : ∀ x ∈ vs, x.1.length ≤ 1048576) :
    Calls Try.prog 26 #[.agg #[.int .i64 sz, .slice a vs.length c], .int .i64 1] w fun e w' => ∃ m : Int, e = .returned (.int .i64 m) ∧ 0 ≤ m ∧ Rng lo hi w w' := by
  obtain ⟨g, rfl, hO⟩ := h
  exact markP w sz lo hi g c vs hO hl hm

end Go.Proofs.Ytacmabdeocmheaa
