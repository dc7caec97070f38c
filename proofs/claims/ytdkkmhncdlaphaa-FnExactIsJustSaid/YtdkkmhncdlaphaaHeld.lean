/- Lists of integers as the statements' helpers meet them: read, marked, held. -/
import Derived.Test.YtdkkmhncdlaphaaMarkA
import Derived.Test.YtdkkmhncdlaphaaOpen
namespace Go.Proofs.Ytdkkmhncdlaphaa
open Go.RowKit

/-- v reads as xs, in blocks below B. -/
def RdB (w : World) (B : Nat) (v : Value) (xs : List Int) : Prop := ∃ a c, v = .slice a xs.length c ∧ RdI w a xs ∧ ∀ b off, a = some ⟨b, off, none⟩ → xs ≠ [] → b < B
theorem FrI.rdB {w : World} {B : Nat} {v : Value} {xs : List Int} (h : FrI w B v xs) : RdB w w.heap.size v xs := by
  obtain ⟨a, c, hv, _, hR, hb⟩ := h
  exact ⟨a, c, hv, hR, fun b off ha hne => (hb b off ha hne).2⟩
theorem RdB.ext {w w' : World} {B : Nat} {v : Value} {xs : List Int} (h : RdB w B v xs) (hw : Ext w w') : RdB w' B v xs := by
  obtain ⟨a, c, hv, hR, hb⟩ := h
  exact ⟨a, c, hv, hR.ext hw, hb⟩
theorem RdB.only {w w' : World} {B g : Nat} {v : Value} {xs : List Int} (h : RdB w B v xs) (hg : B ≤ g) (hw : Only g w w') : RdB w' B v xs := by
  obtain ⟨a, c, hv, hR, hb⟩ := h
  by_cases hne : xs = []
  · subst hne; exact ⟨a, c, hv, RdI.nil _ _, hb⟩
  · exact ⟨a, c, hv, hw.rdI hR (fun b off ha => by have := hb b off ha hne; omega), hb⟩
theorem OwnI.only {w w' : World} {B g : Nat} {v : Value} {xs : List Int} (h : OwnI w B v xs) (hg : g < B) (hw : Only g w w') : OwnI w' B v xs := by
  obtain ⟨h1, h2⟩ := h
  refine ⟨h1, ?_⟩
  rcases h2 with h2 | ⟨g', cap, cur, hv, hg', hh, r⟩
  · exact .inl h2
  · refine .inr ⟨g', cap, cur, hv, hg', ?_, r⟩
    have hlt : g' < w.heap.size := by
      rcases Nat.lt_or_ge g' w.heap.size with hlt | hge
      · exact hlt
      · rw [Array.getElem?_eq_none hge] at hh; cases hh
    rw [hw.block g' hlt (fun e => by injection e; omega)]; exact hh

theorem RdB.rng {w w' : World} {B lo hi : Nat} {v : Value} {xs : List Int} (h : RdB w B v xs) (hg : B ≤ lo) (hw : Rng lo hi w w') : RdB w' B v xs := by
  obtain ⟨a, c, hv, hR, hb⟩ := h
  refine ⟨a, c, hv, fun hx => ?_, hb⟩
  obtain ⟨b, off, rfl, hc⟩ := hR hx
  exact ⟨b, off, rfl, fun j x hj => hw.keep (.inl (by have := hb b off rfl hx; show b < lo; omega)) (hc j x hj)⟩
theorem OwnI.rng {w w' : World} {B lo hi : Nat} {v : Value} {xs : List Int} (h : OwnI w B v xs) (hg : hi ≤ B) (hw : Rng lo hi w w') : OwnI w' B v xs := by
  obtain ⟨h1, h2⟩ := h
  refine ⟨h1, ?_⟩
  rcases h2 with h2 | ⟨g', cap, cur, hv, hg', hh, r⟩
  · exact .inl h2
  · refine .inr ⟨g', cap, cur, hv, hg', ?_, r⟩
    have hlt : g' < w.heap.size := by
      rcases Nat.lt_or_ge g' w.heap.size with hlt | hge
      · exact hlt
      · rw [Array.getElem?_eq_none hge] at hh; cases hh
    rw [hw.block g' hlt (by omega)]; exact hh

theorem eqI2 (w : World) (B1 B2 : Nat) (v1 v2 : Value) (xs ys : List Int) (h1 : RdB w B1 v1 xs) (h2 : RdB w B2 v2 ys) (hl : xs.length ≤ 2000000) :
    Calls Try.prog 19 #[v1, v2] w fun e w' => e = .returned (.bool (decide (xs = ys))) ∧ Ext w w' := by
  obtain ⟨a1, c1, rfl, hR1, _⟩ := h1
  obtain ⟨a2, c2, rfl, hR2, _⟩ := h2
  exact eqIS w a1 a2 c1 c2 xs ys hR1 hR2 hl

theorem eqI_same (w : World) (B1 B2 : Nat) (v1 v2 : Value) (xs : List Int) (h1 : RdB w B1 v1 xs) (h2 : RdB w B2 v2 xs) (hl : xs.length ≤ 2000000) :
    Calls Try.prog 19 #[v1, v2] w fun e w' => e = .returned (.bool true) ∧ Ext w w' :=
  (eqI2 w B1 B2 v1 v2 xs xs h1 h2 hl).mono fun _ _ ⟨he, hw⟩ => ⟨by rw [he]; simp, hw⟩

/-- v holds n marks from k0 on. -/
def Marks (w : World) (v : Value) (n : Nat) (k0 : Int) : Prop := ∃ a c, v = .slice a n c ∧ RdI w a ((List.range n).map fun j : Nat => k0 + (j : Int))
theorem Marks.ext {w w' : World} {v : Value} {n : Nat} {k0 : Int} (h : Marks w v n k0) (hw : Ext w w') : Marks w' v n k0 := by
  obtain ⟨a, c, hv, hR⟩ := h
  exact ⟨a, c, hv, hR.ext hw⟩

theorem markI (w : World) (B : Nat) (v : Value) (xs : List Int) (k0 : Int) (h : OwnI w B v xs) (hB : B ≤ w.heap.size) (hl : xs.length ≤ 1000000) (h0 : 0 ≤ k0) (h1 : k0 ≤ 1000000) :
    Calls Try.prog 21 #[v, .int .i64 k0] w fun e w' => e = .returned (.int .i64 (k0 + xs.length)) ∧ ∃ g, B ≤ g ∧ Only g w w' ∧ Marks w' v xs.length k0 := by
  obtain ⟨a, c, rfl, _, _, _, ho⟩ := h.val
  by_cases hne : xs = []
  · subst hne
    refine (markIS0 w a c k0).mono ?_
    rintro e w' ⟨rfl, rfl⟩
    exact ⟨by simp, w.heap.size, hB, Only.refl _ _, a, c, rfl, RdI.nil _ _⟩
  · obtain ⟨g, rfl, hg, hb⟩ := ho hne
    refine (markIS w g xs.length c _ k0 hb (by omega) h0 (by omega)).mono ?_
    rintro e w' ⟨rfl, hO, hB'⟩
    refine ⟨rfl, g, hg, hO, some ⟨g, 0, none⟩, c, rfl, fun _ => ⟨g, 0, rfl, fun j x hx => ?_⟩⟩
    have hj := lt_of_at hx
    rw [List.length_map, List.length_range] at hj
    rw [Nat.zero_add, hB'.cell j hj]
    simp only [List.getElem?_map, List.getElem?_range hj, Option.map_some] at hx
    injection hx with hx
    rw [← hx]

theorem heldI (w : World) (v : Value) (n : Nat) (k0 : Int) (h : Marks w v n k0) (hn : n ≤ 1000000) (h0 : 0 ≤ k0) (h1 : k0 ≤ 1000000) :
    Calls Try.prog 22 #[v, .int .i64 k0] w fun e w' => e = .returned (.int .i64 (k0 + n)) ∧ Ext w w' := by
  obtain ⟨a, c, rfl, hR⟩ := h
  refine heldIS w a c n k0 _ hR (by show _ = _; simp) (fun j x hx => ?_) (by omega) h0 (by omega)
  have hj := lt_of_at hx
  rw [List.length_map, List.length_range] at hj
  simp only [List.getElem?_map, List.getElem?_range hj, Option.map_some] at hx
  injection hx with hx
  exact hx.symm
end Go.Proofs.Ytdkkmhncdlaphaa
