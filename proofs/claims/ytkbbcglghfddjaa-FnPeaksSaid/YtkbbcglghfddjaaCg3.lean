/- The statements' own helpers on profiles: measured and copied. Lists of integers as the statements' helpers meet them: compared, marked, held. Lists of integers that may be written. Profiles compared whole, and overwritten by marks. -/
import Derived.Test.YtkbbcglghfddjaaCg2
import Derived.Test.YtkbbcglghfddjaaCg1
namespace Go.Proofs.Ytkbbcglghfddjaa
open Go.RowKit

def szN (n left : Int) : Int := if left - n < 0 then -1 else left - n

set_option maxRecDepth 100000 in
theorem szN_bd {n left : Int} (h0 : 0 ≤ left) (hn : 0 ≤ n) : (szN n left < 0 ∧ szN n left = -1) ∨ (0 ≤ szN n left ∧ szN n left ≤ left ∧ n ≤ left ∧ szN n left = left - n) := by
  unfold szN; split <;> omega

def SzOk (left : Int) (vs : List Vt) (r : Int) : Prop := r < 0 ∨ (r ≤ left ∧ vs.length ≤ left ∧ ∀ x ∈ vs, (x.1.length : Int) ≤ left)

set_option maxRecDepth 100000 in
theorem BlkF.rdI {w : World} {g n : Nat} {f : Nat → Value} {xs : List Int} (hB : BlkF w g n f) (hn : xs.length ≤ n) (hf : ∀ j x, xs[j]? = some x → f j = .int .i64 x) : RdI w (some ⟨g, 0, none⟩) xs := fun _ => by
  refine ⟨g, 0, rfl, fun j x hx => ?_⟩
  have := lt_of_at hx
  rw [Nat.zero_add, hB.cell _ (by omega), hf j x hx]

/-- The slice a is the call's own copy of the votes: its blocks lie from lo on and below hi, and may be written. -/
def OwnV (w : World) (lo hi : Nat) (g : Nat) (vs : List Vt) (k : Nat) : Prop := ∃ (f : Nat → Value) (h : Nat → Nat), lo ≤ g ∧ g < hi ∧ BlkF w g (vs.length * 2) f ∧
  ∀ j x, j < k → vs[j]? = some x → f (j * 2) = .slice (some ⟨h j, 0, none⟩) x.1.length x.1.length ∧ f (j * 2 + 1) = .int .i64 x.2 ∧ g < h j ∧ h j < hi ∧
    (∀ i, i < j → h i < h j) ∧ ∃ fi, BlkF w (h j) x.1.length fi ∧ ∀ i y, x.1[i]? = some y → fi i = .int .i64 y
set_option maxRecDepth 100000 in
theorem OwnV.ext {w w' : World} {lo hi g k : Nat} {vs : List Vt} (h : OwnV w lo hi g vs k) (hw : Ext w w') : OwnV w' lo hi g vs k := by
  obtain ⟨f, h, h1, h2, hB, hj⟩ := h
  refine ⟨f, h, h1, h2, hB.ext hw, fun j x hk hx => ?_⟩
  obtain ⟨a0, a1, a2, a3, a4, fi, a5, a6⟩ := hj j x hk hx
  exact ⟨a0, a1, a2, a3, a4, fi, a5.ext hw, a6⟩
set_option maxRecDepth 100000 in
theorem OwnV.rd {w : World} {lo hi g : Nat} {vs : List Vt} (h : OwnV w lo hi g vs vs.length) : RdV w (some ⟨g, 0, none⟩) vs := fun _ => by
  obtain ⟨f, h, h1, h2, hB, hj⟩ := h
  refine ⟨g, 0, rfl, fun j x hx => ?_⟩
  have hl := lt_of_at hx
  obtain ⟨a0, a1, a2, a3, a4, fi, a5, a6⟩ := hj j x hl hx
  refine ⟨_, _, ?_, ?_, Nat.le_refl _, a5.rdI (Nat.le_refl _) a6⟩
  · rw [Nat.zero_add, hB.cell _ (by omega), a0]
  · rw [Nat.zero_add, hB.cell _ (by omega), a1]
set_option maxRecDepth 100000 in
/-- One more vote has been copied into its place. -/
theorem OwnV.put {w : World} {lo hi hi' g k : Nat} {vs : List Vt} {x : Vt} (h : OwnV w lo hi g vs k) (hx : vs[k]? = some x) (gk : Nat) (fk : Nat → Value) (hg : hi ≤ gk) (hg' : gk < hi') (hB : BlkF w gk x.1.length fk)
    (hf : ∀ i y, x.1[i]? = some y → fk i = .int .i64 y) :
    OwnV ((w.setCell ⟨g, k * 2, none⟩ (.slice (some ⟨gk, 0, none⟩) x.1.length x.1.length)).setCell ⟨g, k * 2 + 1, none⟩ (.int .i64 x.2)) lo hi' g vs (k + 1) := by
  obtain ⟨f, h, h1, h2, hB0, hj⟩ := h
  have hl := lt_of_at hx
  obtain ⟨h', hh'⟩ : ∃ h' : Nat → Nat, h' = fun j => if j = k then gk else h j := ⟨_, rfl⟩
  have e1 : h' k = gk := by rw [hh']; simp
  have e2 : ∀ j, j ≠ k → h' j = h j := fun j hj => by rw [hh']; simp [hj]
  refine ⟨_, h', h1, by omega, (hB0.set (k * 2) (by omega) _).set (k * 2 + 1) (by omega) _, fun j y hk hy => ?_⟩
  by_cases e : j = k
  · subst e
    rw [hx] at hy
    injection hy with hy
    subst hy
    rw [e1]
    refine ⟨?_, ?_, by omega, hg', ?_, fk, (hB.far (by simp; omega) _).far (by simp; omega) _, hf⟩
    · rw [if_neg (by omega), if_pos rfl]
    · rw [if_pos rfl]
    · intro i hi
      rw [e2 i (by omega)]
      obtain ⟨z, hz⟩ := at_of_lt (xs := vs) (k := i) (by omega)
      have := (hj i z hi hz).2.2.2.1
      omega
  · obtain ⟨a0, a1, a2, a3, a4, fi, a5, a6⟩ := hj j y (by omega) hy
    rw [e2 j e]
    refine ⟨?_, ?_, a2, by omega, ?_, fi, (a5.far (by simp; omega) _).far (by simp; omega) _, a6⟩
    · rw [if_neg (by omega), if_neg (by omega)]; exact a0
    · rw [if_neg (by omega), if_neg (by omega)]; exact a1
    · intro i hi
      rw [e2 i (by omega)]
      exact a4 i hi

set_option maxRecDepth 100000 in
theorem info_v : (Try.prog.info? 59).map (fun i => (i.zero, i.size, i.bytes)) = some (some (.agg #[.slice none 0 0, .int .i64 0]), 2, 32) := by kernel_rfl

def WrI (w : World) (B : Nat) (v : Value) (xs : List Int) : Prop := ∃ a c, v = .slice a xs.length c ∧ xs.length ≤ c ∧
  (xs ≠ [] → ∃ g f, a = some ⟨g, 0, none⟩ ∧ B ≤ g ∧ BlkF w g xs.length f ∧ ∀ j x, xs[j]? = some x → f j = .int .i64 x)
set_option maxRecDepth 100000 in
theorem WrI.wr {w : World} {B : Nat} {v : Value} {xs : List Int} (h : WrI w B v xs) : WrI w B v xs := h
set_option maxRecDepth 100000 in
theorem OwnI.wr {w : World} {B : Nat} {v : Value} {xs : List Int} (h : OwnI w B v xs) : WrI w B v xs := by
  obtain ⟨a, c, hv, hc, _, hR, ho⟩ := h.val
  refine ⟨a, c, hv, hc, fun hne => ?_⟩
  obtain ⟨g, ha, hg, hB⟩ := ho hne
  exact ⟨g, _, ha, hg, hB, fun j x hx => by simp [List.getD, hx]⟩
set_option maxRecDepth 100000 in
theorem WrI.fr {w : World} {B : Nat} {v : Value} {xs : List Int} (h : WrI w B v xs) : FrI w B v xs := by
  obtain ⟨a, c, hv, hc, ho⟩ := h
  by_cases hne : xs = []
  · subst hne; subst hv; exact FrI.nil _ _ _ _
  · obtain ⟨g, f, rfl, hg, hB, hf⟩ := ho hne
    rw [hv]
    exact hB.frI rfl hf hg hc
set_option maxRecDepth 100000 in
theorem WrI.ext {w w' : World} {B : Nat} {v : Value} {xs : List Int} (h : WrI w B v xs) (hw : Ext w w') : WrI w' B v xs := by
  obtain ⟨a, c, hv, hc, ho⟩ := h
  refine ⟨a, c, hv, hc, fun hne => ?_⟩
  obtain ⟨g, f, ha, hg, hB, hf⟩ := ho hne
  exact ⟨g, f, ha, hg, hB.ext hw, hf⟩
set_option maxRecDepth 100000 in
theorem WrI.base {w : World} {B B' : Nat} {v : Value} {xs : List Int} (h : WrI w B v xs) (hb : B' ≤ B) : WrI w B' v xs := by
  obtain ⟨a, c, hv, hc, ho⟩ := h
  refine ⟨a, c, hv, hc, fun hne => ?_⟩
  obtain ⟨g, f, ha, hg, hB, hf⟩ := ho hne
  exact ⟨g, f, ha, by omega, hB, hf⟩
set_option maxRecDepth 100000 in
theorem WrI.rng {w w' : World} {B lo hi : Nat} {v : Value} {xs : List Int} (h : WrI w B v xs) (hg : hi ≤ B) (hw : Rng lo hi w w') : WrI w' B v xs := by
  obtain ⟨a, c, hv, hc, ho⟩ := h
  refine ⟨a, c, hv, hc, fun hne => ?_⟩
  obtain ⟨g, f, ha, hg', hB, hf⟩ := ho hne
  exact ⟨g, f, ha, hg', ⟨Nat.lt_of_lt_of_le hB.lt hw.size, fun o => (World.frozen?_of_block (w := w) (hw.block g hB.lt (by omega))).trans (hB.fr o), fun o ho => hw.keep (.inr (show hi ≤ g by omega)) (hB.cell o ho)⟩, hf⟩
set_option maxRecDepth 100000 in
theorem WrI.nil (w : World) (B : Nat) (a : Option Addr) (c : Nat) : WrI w B (.slice a 0 c) [] := ⟨a, c, rfl, Nat.zero_le _, fun h => absurd rfl h⟩
set_option maxRecDepth 100000 in
theorem BlkF.wrI {w : World} {g n B c : Nat} {f : Nat → Value} {xs : List Int} (hB : BlkF w g n f) (hn : xs.length = n) (hf : ∀ (j : Nat) (x : Int), xs[j]? = some x → f j = .int .i64 x) (hg : B ≤ g) (hc : n ≤ c) : WrI w B (.slice (some ⟨g, 0, none⟩) n c) xs := by
  subst hn
  exact ⟨_, _, rfl, hc, fun _ => ⟨g, f, rfl, hg, hB, hf⟩⟩

/-- What is left of a copy whose first k votes have been overwritten. -/
def MkV (w : World) (lo hi : Nat) (g : Nat) (vs : List Vt) (k : Nat) : Prop := ∃ (f : Nat → Value) (h : Nat → Nat), lo ≤ g ∧ g < hi ∧ BlkF w g (vs.length * 2) f ∧
  ∀ j x, k ≤ j → vs[j]? = some x → f (j * 2) = .slice (some ⟨h j, 0, none⟩) x.1.length x.1.length ∧ g < h j ∧ h j < hi ∧
    (∀ i, k ≤ i → i < j → h i < h j) ∧ ∃ fi, BlkF w (h j) x.1.length fi
set_option maxRecDepth 100000 in
theorem OwnV.mk {w : World} {lo hi g : Nat} {vs : List Vt} (h : OwnV w lo hi g vs vs.length) : MkV w lo hi g vs 0 := by
  obtain ⟨f, h, h1, h2, hB, hj⟩ := h
  refine ⟨f, h, h1, h2, hB, fun j x _ hx => ?_⟩
  obtain ⟨a0, a1, a2, a3, a4, fi, a5, a6⟩ := hj j x (lt_of_at hx) hx
  exact ⟨a0, a2, a3, fun i _ hi => a4 i hi, fi, a5⟩
set_option maxRecDepth 100000 in
theorem MkV.ext {w w' : World} {lo hi g k : Nat} {vs : List Vt} (h : MkV w lo hi g vs k) (hw : Ext w w') : MkV w' lo hi g vs k := by
  obtain ⟨f, h, h1, h2, hB, hj⟩ := h
  refine ⟨f, h, h1, h2, hB.ext hw, fun j x hk hx => ?_⟩
  obtain ⟨a0, a2, a3, a4, fi, a5⟩ := hj j x hk hx
  exact ⟨a0, a2, a3, a4, fi, a5.ext hw⟩
set_option maxRecDepth 100000 in
theorem MkV.at_ {w : World} {lo hi g k : Nat} {vs : List Vt} {x : Vt} (h : MkV w lo hi g vs k) (hx : vs[k]? = some x) :
    ∃ gk fi v, w.cell? ⟨g, k * 2, none⟩ = some (.slice (some ⟨gk, 0, none⟩) x.1.length x.1.length) ∧ w.cell? ⟨g, k * 2 + 1, none⟩ = some v ∧ (∀ o, w.frozen? ⟨g, o, none⟩ = false) ∧ lo ≤ gk ∧ gk < hi ∧ BlkF w gk x.1.length fi ∧
      ∀ w', Only gk w w' → (∀ o, w'.frozen? ⟨g, o, none⟩ = false) ∧ w'.cell? ⟨g, k * 2 + 1, none⟩ = some v ∧ ∀ u, MkV (w'.setCell ⟨g, k * 2 + 1, none⟩ u) lo hi g vs (k + 1) := by
  obtain ⟨f, h, h1, h2, hB, hj⟩ := h
  have hl := lt_of_at hx
  obtain ⟨a0, a2, a3, a4, fi, a5⟩ := hj k x (Nat.le_refl _) hx
  refine ⟨h k, fi, _, ?_, hB.cell _ (by omega), hB.fr, by omega, a3, a5, fun w' hw => ?_⟩
  · rw [hB.cell _ (by omega), a0]
  · have hB' := hw.blk hB (by omega)
    refine ⟨hB'.fr, hB'.cell _ (by omega), fun u => ⟨_, h, h1, h2, hB'.set _ (by omega) u, fun j y hk hy => ?_⟩⟩
    obtain ⟨b0, b2, b3, b4, fj, b5⟩ := hj j y (by omega) hy
    have := b4 k (Nat.le_refl _) (by omega)
    refine ⟨?_, b2, b3, fun i h3 h4 => b4 i (by omega) h4, fj, (hw.blk b5 (by omega)).far (by simp; omega) _⟩
    rw [if_neg (by omega)]; exact b0

end Go.Proofs.Ytkbbcglghfddjaa
