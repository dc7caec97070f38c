/- Lists of integers that may be written. -/
import Derived.Test.YtacmabdeocmheaaIntS
namespace Go.Proofs.Ytacmabdeocmheaa
open Go.RowKit

def WrI (w : World) (B : Nat) (v : Value) (xs : List Int) : Prop := ∃ a c, v = .slice a xs.length c ∧ xs.length ≤ c ∧
  (xs ≠ [] → ∃ g f, a = some ⟨g, 0, none⟩ ∧ B ≤ g ∧ BlkF w g xs.length f ∧ ∀ j x, xs[j]? = some x → f j = .int .i64 x)
set_option maxRecDepth 100000 in
theorem WrI.wr {w : World} {B : Nat} {v : Value} {xs : List Int} (h : WrI w B v xs) : WrI w B v xs := h
set_option maxRecDepth 100000 in
theorem OwnI.wr {w : World} {B : Nat} {v : Value} {xs : List Int} (h : OwnI w B v xs) : WrI w B v xs := by
  obtain ⟨a, c, hv, hc, _, hR, ho⟩ := h.val
  refine ⟨a, c, hv, hc, fun hne => ?_⟩
  obtain ⟨g, ha, hg, hB⟩ := ho hne
  exact ⟨g, _, ha, hg, hB, fun j x hx => by simp [List.getD, hx]⟩
set_option maxRecDepth 100000 in
theorem WrI.fr {w : World} {B : Nat} {v : Value} {xs : List Int} (h : WrI w B v xs) : FrI w B v xs := by
  obtain ⟨a, c, hv, hc, ho⟩ := h
  by_cases hne : xs = []
  · subst hne; subst hv; exact FrI.nil _ _ _ _
  · obtain ⟨g, f, rfl, hg, hB, hf⟩ := ho hne
    rw [hv]
    exact hB.frI rfl hf hg hc
set_option maxRecDepth 100000 in
theorem WrI.ext {w w' : World} {B : Nat} {v : Value} {xs : List Int} (h : WrI w B v xs) (hw : Ext w w') : WrI w' B v xs := by
  obtain ⟨a, c, hv, hc, ho⟩ := h
  refine ⟨a, c, hv, hc, fun hne => ?_⟩
  obtain ⟨g, f, ha, hg, hB, hf⟩ := ho hne
  exact ⟨g, f, ha, hg, hB.ext hw, hf⟩
set_option maxRecDepth 100000 in
theorem WrI.base {w : World} {B B' : Nat} {v : Value} {xs : List Int} (h : WrI w B v xs) (hb : B' ≤ B) : WrI w B' v xs := by
  obtain ⟨a, c, hv, hc, ho⟩ := h
  refine ⟨a, c, hv, hc, fun hne => ?_⟩
  obtain ⟨g, f, ha, hg, hB, hf⟩ := ho hne
  exact ⟨g, f, ha, by omega, hB, hf⟩
set_option maxRecDepth 100000 in
theorem WrI.rng {w w' : World} {B lo hi : Nat} {v : Value} {xs : List Int} (h : WrI w B v xs) (hg : hi ≤ B) (hw : Rng lo hi w w') : WrI w' B v xs := by
  obtain ⟨a, c, hv, hc, ho⟩ := h
  refine ⟨a, c, hv, hc, fun hne => ?_⟩
  obtain ⟨g, f, ha, hg', hB, hf⟩ := ho hne
  exact ⟨g, f, ha, hg', ⟨Nat.lt_of_lt_of_le hB.lt hw.size, fun o => (World.frozen?_of_block (w := w) (hw.block g hB.lt (by omega))).trans (hB.fr o), fun o ho => hw.keep (.inr (show hi ≤ g by omega)) (hB.cell o ho)⟩, hf⟩
set_option maxRecDepth 100000 in
theorem WrI.nil (w : World) (B : Nat) (a : Option Addr) (c : Nat) : WrI w B (.slice a 0 c) [] := ⟨a, c, rfl, Nat.zero_le _, fun h => absurd rfl h⟩
set_option maxRecDepth 100000 in
theorem BlkF.wrI {w : World} {g n B c : Nat} {f : Nat → Value} {xs : List Int} (hB : BlkF w g n f) (hn : xs.length = n) (hf : ∀ (j : Nat) (x : Int), xs[j]? = some x → f j = .int .i64 x) (hg : B ≤ g) (hc : n ≤ c) : WrI w B (.slice (some ⟨g, 0, none⟩) n c) xs := by
  subst hn
  exact ⟨_, _, rfl, hc, fun _ => ⟨g, f, rfl, hg, hB, hf⟩⟩

set_option maxRecDepth 100000 in
theorem markW (w : World) (B : Nat) (v : Value) (xs : List Int) (k0 : Int) (h : WrI w B v xs) (hB : B ≤ w.heap.size) (hl : xs.length ≤ 1000000) (h0 : 0 ≤ k0) (h1 : k0 ≤ 1000000) :
    Calls Try.prog 31 #[v, .int .i64 k0] w fun e w' => e = .returned (.int .i64 (k0 + xs.length)) ∧ ∃ g, B ≤ g ∧ Only g w w' ∧ Marks w' v xs.length k0 := by
  obtain ⟨a, c, rfl, _, ho⟩ := h
  by_cases hne : xs = []
  · subst hne
    refine (markIS0 w a c k0).mono ?_
    rintro e w' ⟨rfl, rfl⟩
    exact ⟨by simp, w.heap.size, hB, Only.refl _ _, a, c, rfl, RdI.nil _ _⟩
  · obtain ⟨g, f, rfl, hg, hb, _⟩ := ho hne
    refine (markIS w g xs.length c _ k0 hb (by omega) h0 (by omega)).mono ?_
    rintro e w' ⟨rfl, hO, hB'⟩
    refine ⟨rfl, g, hg, hO, some ⟨g, 0, none⟩, c, rfl, fun _ => ⟨g, 0, rfl, fun j x hx => ?_⟩⟩
    have hj := lt_of_at hx
    rw [List.length_map, List.length_range] at hj
    rw [Nat.zero_add, hB'.cell j hj]
    simp only [List.getElem?_map, List.getElem?_range hj, Option.map_some] at hx
    injection hx with hx
    rw [← hx]

end Go.Proofs.Ytacmabdeocmheaa
