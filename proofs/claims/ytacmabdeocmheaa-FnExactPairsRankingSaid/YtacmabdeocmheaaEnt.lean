/- Lists of lists as entries: where each row lies and what it holds. -/
import Derived.Test.YtacmabdeocmheaaInsR
import Derived.Test.YtacmabdeocmheaaAppG
namespace Go.Proofs.Ytacmabdeocmheaa
open Go.RowKit

/-- All rows are the call's own, no two of them in one block. -/
def EntE (w : World) (B : Nat) (es : List RowE) : Prop := (∀ e ∈ es, OwnI w B (rowV e) e.xs) ∧ es.Pairwise (fun e e' => ∀ k, (rowV e).ownBlock = some k → (rowV e').ownBlock ≠ some k)
/-- The outer list holds the entries. -/
def RowsE (w : World) (B : Nat) (v : Value) (es : List RowE) : Prop := w.ownsRow B 50 1 v es.length (es.map rowV)
set_option maxRecDepth 100000 in
theorem EntE.nil (w : World) (B : Nat) : EntE w B [] := ⟨fun _ h => by simp at h, List.Pairwise.nil⟩
set_option maxRecDepth 100000 in
theorem EntE.ext {w w' : World} {B : Nat} {es : List RowE} (h : EntE w B es) (hw : Ext w w') : EntE w' B es := ⟨fun e he => (h.1 e he).ext hw, h.2⟩
set_option maxRecDepth 100000 in
theorem EntE.base {w : World} {B B' : Nat} {es : List RowE} (h : EntE w B es) (hb : B' ≤ B) : EntE w B' es := ⟨fun e he => (h.1 e he).base hb, h.2⟩
set_option maxRecDepth 100000 in
theorem EntE.only {w w' : World} {B g : Nat} {es : List RowE} (h : EntE w B es) (hw : Only g w w') (hg : ∀ e ∈ es, (rowV e).ownBlock ≠ some g) : EntE w' B es :=
  ⟨fun e he => (h.1 e he).keepRow hw (.inr (hg e he)), h.2⟩
set_option maxRecDepth 100000 in
theorem EntE.grown {w w' : World} {B : Nat} {es : List RowE} {row : Option Nat} (h : EntE w B es) (hw : w.grownBy w' row) (hg : ∀ e ∈ es, (rowV e).ownBlock = none ∨ (rowV e).ownBlock ≠ row) : EntE w' B es :=
  ⟨fun e he => (h.1 e he).keepRow hw (hg e he), h.2⟩
set_option maxRecDepth 100000 in
theorem dis_symm : ∀ {x y : RowE}, (∀ k, (rowV x).ownBlock = some k → (rowV y).ownBlock ≠ some k) → ∀ k, (rowV y).ownBlock = some k → (rowV x).ownBlock ≠ some k := fun h k hk he => h k he hk
set_option maxRecDepth 100000 in
theorem EntE.perm {w : World} {B : Nat} {es es' : List RowE} (h : EntE w B es) (hp : es'.Perm es) : EntE w B es' :=
  ⟨fun e he => h.1 e (hp.mem_iff.1 he), (hp.symm.pairwise_iff dis_symm).1 h.2⟩
set_option maxRecDepth 100000 in
theorem EntE.sub {w : World} {B : Nat} {es es' : List RowE} (h : EntE w B es) (hs : es'.Sublist es) : EntE w B es' :=
  ⟨fun e he => h.1 e (hs.subset he), h.2.sublist hs⟩
set_option maxRecDepth 100000 in
theorem EntE.lt {w : World} {B : Nat} {es : List RowE} (h : EntE w B es) : ∀ e ∈ es, ∀ k, (rowV e).ownBlock = some k → B ≤ k ∧ k < w.heap.size := fun e he k hk => World.ownsRow.lt (h.1 e he) k hk
set_option maxRecDepth 100000 in
theorem EntE.rd {w : World} {B : Nat} {es : List RowE} (h : EntE w B es) {e : RowE} (he : e ∈ es) : RdI w e.a e.xs ∧ e.n = e.xs.length := by
  obtain ⟨a, c, hv, _, _, hR, _⟩ := (h.1 e he).val
  unfold rowV at hv
  injection hv with h1 h2 h3
  rw [h1]
  exact ⟨hR, h2⟩
set_option maxRecDepth 100000 in
theorem EntE.add {w : World} {B : Nat} {es : List RowE} {e : RowE} (h : EntE w B es) (he : OwnI w B (rowV e) e.xs) (hf : ∀ e' ∈ es, ∀ k, (rowV e').ownBlock = some k → (rowV e).ownBlock ≠ some k) : EntE w B (es ++ [e]) := by
  refine ⟨fun x hx => ?_, ?_⟩
  · rcases List.mem_append.1 hx with hx | hx
    · exact h.1 x hx
    · simp at hx; subst hx; exact he
  · rw [List.pairwise_append]
    refine ⟨h.2, by simp, fun x hx y hy => ?_⟩
    simp at hy; subst hy
    exact hf x hx
set_option maxRecDepth 100000 in
theorem RowsE.ext {w w' : World} {B : Nat} {v : Value} {es : List RowE} (h : RowsE w B v es) (hw : Ext w w') : RowsE w' B v es := ownsRow_ext h hw
set_option maxRecDepth 100000 in
theorem RowsE.base {w : World} {B B' : Nat} {v : Value} {es : List RowE} (h : RowsE w B v es) (hb : B' ≤ B) : RowsE w B' v es := ownsRow_base h hb
set_option maxRecDepth 100000 in
theorem RowsE.nil (w : World) (B : Nat) : RowsE w B (.slice none 0 0) [] := World.ownsRow_nil _ _ _ _
set_option maxRecDepth 100000 in
theorem RowsE.made0 (w : World) : RowsE (w.alloc (.cells #[] 50)) w.heap.size (.slice (some ⟨w.heap.size, 0, none⟩) 0 0) [] :=
  ⟨rfl, .inr ⟨w.heap.size, 0, #[], rfl, Nat.le_refl _, heap_alloc_new _ _, Nat.le_refl _, by simp, rfl, rfl⟩⟩
set_option maxRecDepth 100000 in
/-- A row is never the outer list. -/
theorem rows_ne {w : World} {B B' : Nat} {v : Value} {es fs : List RowE} (h : RowsE w B v es) (hf : EntE w B' fs) : ∀ e ∈ fs, (rowV e).ownBlock = none ∨ (rowV e).ownBlock ≠ v.ownBlock := fun e he => own_ne' (hf.1 e he) h
set_option maxRecDepth 100000 in
theorem RowsE.own {w : World} {B : Nat} {v : Value} {es : List RowE} (h : RowsE w B v es) (he : EntE w B es) : OwnSS w B v (es.map RowE.xs) := by
  refine ⟨es.map rowV, by rw [List.length_map]; exact h, by simp, fun j xs hx => ?_, fun i j u u' k hne hu hu' hk => ?_⟩
  · rw [List.getElem?_map, Option.map_eq_some_iff] at hx
    obtain ⟨e, hx, rfl⟩ := hx
    exact ⟨rowV e, by rw [List.getElem?_map, hx]; rfl, he.1 e (List.mem_of_getElem? hx)⟩
  · rw [List.getElem?_map, Option.map_eq_some_iff] at hu hu'
    obtain ⟨e, h1, rfl⟩ := hu
    obtain ⟨e', h2, rfl⟩ := hu'
    have l1 := lt_of_at h1
    have l2 := lt_of_at h2
    rw [List.getElem?_eq_getElem l1] at h1
    rw [List.getElem?_eq_getElem l2] at h2
    injection h1 with h1
    injection h2 with h2
    rcases Nat.lt_or_ge i j with hlt | hge
    · have := List.pairwise_iff_getElem.1 he.2 i j l1 l2 hlt
      rw [h1, h2] at this
      exact this k hk
    · have := List.pairwise_iff_getElem.1 he.2 j i l2 l1 (by omega)
      rw [h1, h2] at this
      exact dis_symm this k hk
set_option maxRecDepth 100000 in
/-- The outer list as a value. -/
theorem RowsE.val {w : World} {B : Nat} {v : Value} {es : List RowE} (h : RowsE w B v es) : ∃ a c, v = .slice a es.length c ∧ es.length ≤ c ∧ c ≤ maxLen ∧ (es ≠ [] → ∃ g, a = some ⟨g, 0, none⟩ ∧ B ≤ g ∧ BlkF w g es.length (memF rowV es)) := by
  have h0 := h
  obtain ⟨_, h2⟩ := h
  rcases h2 with ⟨rfl, h2⟩ | ⟨g, cap, cur, rfl, hg, hh, hc, hm, hs, ht⟩
  · have : es = [] := List.length_eq_zero_iff.1 h2
    subst this
    exact ⟨none, 0, rfl, Nat.le_refl _, by simp, fun h => absurd rfl h⟩
  · have hl : g < w.heap.size := (World.ownsRow.lt h0 g rfl).2
    refine ⟨some ⟨g, 0, none⟩, cap, rfl, hc, hm, fun _ => ⟨g, rfl, hg, hl, fun o => World.ownsRow.frozenAt h0 o, fun o ho => ?_⟩⟩
    rw [World.ownsRow.cellAt h0 o (by omega)]
    obtain ⟨e, he⟩ := at_of_lt ho
    rw [List.getElem?_map, he, memF_at he]; rfl
set_option maxRecDepth 100000 in
theorem RowsE.at_ {w : World} {B : Nat} {a : Option Addr} {n c : Nat} {es : List RowE} (h : RowsE w B (.slice a n c) es) {k : Nat} {e : RowE} (he : es[k]? = some e) : ∃ g, a = some ⟨g, 0, none⟩ ∧ w.cell? ⟨g, k, none⟩ = some (.slice e.a e.n e.c) := by
  obtain ⟨a', c', hv, _, _, ho⟩ := h.val
  injection hv with h1 h2 h3
  obtain ⟨g, hg, _, hb⟩ := ho (ne_of_at he)
  refine ⟨g, by rw [h1, hg], ?_⟩
  rw [hb.cell k (lt_of_at he), memF_at he]; rfl

end Go.Proofs.Ytacmabdeocmheaa
