/- Lists of lists of integers in memory: read, compared, written, marked, held. -/
import Derived.Test.YthiojkpoeejkaaaCa5
import Derived.Laws.OwnMore
namespace Go.Proofs.Ythiojkpoeejkaaa
open Go.RowKit

set_option maxRecDepth 100000 in
/-- One cell of a list of the call's own is written. -/
theorem OwnI.store {w : World} {B : Nat} {v : Value} {xs : List Int} (h : OwnI w B v xs) {i : Nat} {x : Int} (hx : xs[i]? = some x) :
    ∃ g c, v = .slice (some ⟨g, 0, none⟩) xs.length c ∧ v.ownBlock = some g ∧ B ≤ g ∧ g < w.heap.size ∧ w.cell? ⟨g, i, none⟩ = some (.int .i64 x) ∧ w.frozen? ⟨g, i, none⟩ = false ∧
      ∀ y, OwnI (w.setCell ⟨g, i, none⟩ (.int .i64 y)) B v (xs.set i y) := by
  have h0 := h
  unfold OwnI at h
  obtain ⟨h1, h2⟩ := h
  rcases h2 with ⟨rfl, h2⟩ | ⟨g, cap, cur, rfl, hg, hh, r⟩
  · have := lt_of_at hx; omega
  · have hl := (World.ownsRow.lt h0 g rfl).2
    refine ⟨g, cap, rfl, rfl, hg, hl, ?_, World.ownsRow.frozenAt h0 i, fun y => ?_⟩
    · rw [World.ownsRow.cellAt h0 i (by have := lt_of_at hx; omega)]; simp [hx]
    · have h3 := (World.ownsRow.stored h0 i (.int .i64 y)).1
      unfold OwnI
      rw [List.length_set, List.map_set]
      exact h3

set_option maxRecDepth 100000 in
theorem OwnI.storeAt {w : World} {B g n c : Nat} {xs : List Int} (h : OwnI w B (.slice (some ⟨g, 0, none⟩) n c) xs) {i : Nat} {x : Int} (hx : xs[i]? = some x) :
    w.cell? ⟨g, i, none⟩ = some (.int .i64 x) ∧ w.frozen? ⟨g, i, none⟩ = false ∧ ∀ y, OwnI (w.setCell ⟨g, i, none⟩ (.int .i64 y)) B (.slice (some ⟨g, 0, none⟩) n c) (xs.set i y) := by
  obtain ⟨g', c', hv, _, _, _, h0, h1, h2⟩ := h.store hx
  injection hv with hv
  injection hv with hv
  injection hv with hv
  subst hv
  exact ⟨h0, h1, h2⟩

/-- A matrix in memory: block g holds the n rows us, row o reads as rows o; all may be written. -/
structure Mat (w : World) (B g n : Nat) (us : Nat → Value) (rows : Nat → List Int) : Prop where
  base : B ≤ g
  outer : BlkF w g n us
  row : ∀ o, o < n → OwnI w B (us o) (rows o)
  far : ∀ o, o < n → (us o).ownBlock ≠ some g
  dis : ∀ o o' k, o < n → o' < n → o ≠ o' → (us o).ownBlock = some k → (us o').ownBlock ≠ some k

set_option maxRecDepth 100000 in
theorem Mat.ext {w w' : World} {B g n : Nat} {us : Nat → Value} {rows : Nat → List Int} (h : Mat w B g n us rows) (hw : Ext w w') : Mat w' B g n us rows :=
  ⟨h.base, h.outer.ext hw, fun o ho => (h.row o ho).ext hw, h.far, h.dis⟩
set_option maxRecDepth 100000 in
theorem Mat.low {w : World} {B B' g n : Nat} {us : Nat → Value} {rows : Nat → List Int} (h : Mat w B g n us rows) (hb : B' ≤ B) : Mat w B' g n us rows :=
  ⟨Nat.le_trans hb h.base, h.outer, fun o ho => (h.row o ho).base hb, h.far, h.dis⟩
set_option maxRecDepth 100000 in
theorem Mat.congr {w : World} {B g n : Nat} {us : Nat → Value} {rows rows' : Nat → List Int} (h : Mat w B g n us rows) (hr : ∀ o, o < n → rows o = rows' o) : Mat w B g n us rows' :=
  ⟨h.base, h.outer, fun o ho => by rw [← hr o ho]; exact h.row o ho, h.far, h.dis⟩

set_option maxRecDepth 100000 in
theorem setCell_row (w : World) (g i : Nat) (v : Value) : w.grownBy (w.setCell ⟨g, i, none⟩ v) (some g) :=
  ⟨rfl, rfl, rfl, by simp [World.setCell], fun k _ hne => Below.heap_setCell w _ v k (fun e => hne (congrArg some e))⟩
set_option maxRecDepth 100000 in
theorem OwnI.keepRow {w w' : World} {B : Nat} {v : Value} {xs : List Int} {row : Option Nat} (h : OwnI w B v xs) (hg : w.grownBy w' row) (hne : v.ownBlock = none ∨ v.ownBlock ≠ row) : OwnI w' B v xs := World.ownsRow.kept h hg hne

set_option maxRecDepth 100000 in
/-- A cell of the matrix is read and written. -/
theorem Mat.cell {w : World} {B g n : Nat} {us : Nat → Value} {rows : Nat → List Int} (h : Mat w B g n us rows) {i j : Nat} {x : Int} (hi : i < n) (hx : (rows i)[j]? = some x) :
    ∃ b c, us i = .slice (some ⟨b, 0, none⟩) (rows i).length c ∧ w.cell? ⟨g, i, none⟩ = some (.slice (some ⟨b, 0, none⟩) (rows i).length c) ∧ B ≤ b ∧ w.cell? ⟨b, j, none⟩ = some (.int .i64 x) ∧ w.frozen? ⟨b, j, none⟩ = false ∧
      ∀ y, Mat (w.setCell ⟨b, j, none⟩ (.int .i64 y)) B g n us (fun o => if o = i then (rows i).set j y else rows o) := by
  obtain ⟨b, c, hv, hb, hB, _, h0, h1, h2⟩ := (h.row i hi).store hx
  refine ⟨b, c, hv, by rw [h.outer.cell i hi, hv], hB, h0, h1, fun y => ⟨h.base, ?_, fun o ho => ?_, h.far, h.dis⟩⟩
  · exact h.outer.far (fun e => h.far i hi (by rw [hb]; exact congrArg some e)) _
  · by_cases e : o = i
    · subst e; rw [if_pos rfl]; exact h2 y
    · rw [if_neg e]
      exact (h.row o ho).keepRow (setCell_row w b j _) (.inr (fun e2 => h.dis i o b hi ho (Ne.symm e) hb e2))

set_option maxRecDepth 100000 in
/-- A row of the matrix is replaced. -/
theorem Mat.put {w w' : World} {B g n : Nat} {us : Nat → Value} {rows : Nat → List Int} (h : Mat w B g n us rows) {i : Nat} (hi : i < n) {u : Value} {xs : List Int} {row : Option Nat} (hg : w.grownBy w' row)
    (hr : ∀ k, row = some k → k ≠ g ∧ ∀ o, o < n → o ≠ i → (us o).ownBlock ≠ some k)
    (hu : OwnI w' B u xs) (hk : ∀ k, u.ownBlock = some k → k ≠ g ∧ ∀ o, o < n → o ≠ i → (us o).ownBlock ≠ some k) :
    Mat (w'.setCell ⟨g, i, none⟩ u) B g n (fun o => if o = i then u else us o) (fun o => if o = i then xs else rows o) := by
  have hB : BlkF w' g n us := by
    have hgr : w'.heap[g]? = w.heap[g]? := hg.block g h.outer.lt (fun e => (hr g e.symm).1 rfl)
    exact ⟨Nat.lt_of_lt_of_le h.outer.lt hg.size, fun o => (World.frozen?_of_block (w := w) hgr).trans (h.outer.fr o), fun o ho => (World.cell?_of_block (w := w) hgr).trans (h.outer.cell o ho)⟩
  refine ⟨h.base, hB.set i hi u, fun o ho => ?_, fun o ho => ?_, fun o o' k ho ho' hne hk1 => ?_⟩
  · by_cases e : o = i
    · subst e; rw [if_pos rfl, if_pos rfl]
      exact hu.keepRow (setCell_row w' g o u) (by
        cases hu1 : u.ownBlock with
        | none => exact .inl rfl
        | some k => exact .inr (fun e => (hk k hu1).1 (by injection e)))
    · rw [if_neg e, if_neg e]
      have h1 : OwnI w' B (us o) (rows o) := (h.row o ho).keepRow hg (by
        cases hrow : row with
        | none => by_cases hn : (us o).ownBlock = none
                  · exact .inl hn
                  · exact .inr hn
        | some k => exact .inr ((hr k hrow).2 o ho e))
      exact h1.keepRow (setCell_row w' g i u) (.inr (h.far o ho))
  · by_cases e : o = i
    · subst e; rw [if_pos rfl]; exact fun e => (hk g e).1 rfl
    · rw [if_neg e]; exact h.far o ho
  · by_cases e : o = i
    · subst e
      rw [if_pos rfl] at hk1
      rw [if_neg (Ne.symm hne)]
      exact (hk k hk1).2 o' ho' (Ne.symm hne)
    · rw [if_neg e] at hk1
      by_cases e2 : o' = i
      · subst e2
        rw [if_pos rfl]
        exact fun h3 => (hk k h3).2 o ho e hk1
      · rw [if_neg e2]
        exact h.dis o o' k ho ho' hne hk1

/-- v is the list xss of lists, all of it the call's own. -/
def WrSS (w : World) (B : Nat) (v : Value) (xss : List (List Int)) : Prop := ∃ a c, v = .slice a xss.length c ∧ xss.length ≤ c ∧
  (xss ≠ [] → ∃ g us, a = some ⟨g, 0, none⟩ ∧ Mat w B g xss.length us (fun o => xss.getD o []))
set_option maxRecDepth 100000 in
theorem WrSS.nil (w : World) (B : Nat) (a : Option Addr) (c : Nat) : WrSS w B (.slice a 0 c) [] := ⟨a, c, rfl, Nat.zero_le _, fun h => absurd rfl h⟩
set_option maxRecDepth 100000 in
theorem WrSS.ext {w w' : World} {B : Nat} {v : Value} {xss : List (List Int)} (h : WrSS w B v xss) (hw : Ext w w') : WrSS w' B v xss := by
  obtain ⟨a, c, hv, hc, ho⟩ := h
  refine ⟨a, c, hv, hc, fun hne => ?_⟩
  obtain ⟨g, us, ha, hM⟩ := ho hne
  exact ⟨g, us, ha, hM.ext hw⟩
set_option maxRecDepth 100000 in
theorem WrSS.base {w : World} {B B' : Nat} {v : Value} {xss : List (List Int)} (h : WrSS w B v xss) (hb : B' ≤ B) : WrSS w B' v xss := by
  obtain ⟨a, c, hv, hc, ho⟩ := h
  refine ⟨a, c, hv, hc, fun hne => ?_⟩
  obtain ⟨g, us, ha, hM⟩ := ho hne
  exact ⟨g, us, ha, hM.low hb⟩
set_option maxRecDepth 100000 in
theorem WrSS.rng {w w' : World} {B lo hi : Nat} {v : Value} {xss : List (List Int)} (h : WrSS w B v xss) (hg : hi ≤ B) (hw : Rng lo hi w w') : WrSS w' B v xss := by
  obtain ⟨a, c, hv, hc, ho⟩ := h
  refine ⟨a, c, hv, hc, fun hne => ?_⟩
  obtain ⟨g, us, ha, hM⟩ := ho hne
  have := hM.base
  refine ⟨g, us, ha, hM.base, ⟨Nat.lt_of_lt_of_le hM.outer.lt hw.size, fun o => (World.frozen?_of_block (w := w) (hw.block g hM.outer.lt (by omega))).trans (hM.outer.fr o), fun o ho => hw.keep (.inr (show hi ≤ g by omega)) (hM.outer.cell o ho)⟩,
    fun o ho => (hM.row o ho).rng hg hw, hM.far, hM.dis⟩
set_option maxRecDepth 100000 in
theorem Mat.wr {w : World} {B g n c : Nat} {us : Nat → Value} {rows : Nat → List Int} (h : Mat w B g n us rows) (hc : n ≤ c) : WrSS w B (.slice (some ⟨g, 0, none⟩) n c) ((List.range n).map rows) := by
  refine ⟨some ⟨g, 0, none⟩, c, by simp, by simpa using hc, fun _ => ⟨g, us, rfl, ?_⟩⟩
  rw [List.length_map, List.length_range]
  exact h.congr (fun o ho => by simp [List.getD, ho])

/-- v reads as xss, in blocks below B. -/
def RdSS (w : World) (B : Nat) (v : Value) (xss : List (List Int)) : Prop := ∃ a c, v = .slice a xss.length c ∧ (xss ≠ [] → ∃ b off, a = some ⟨b, off, none⟩ ∧ b < B ∧
  ∀ j xs, xss[j]? = some xs → ∃ u, w.cell? ⟨b, off + j, none⟩ = some u ∧ RdB w B u xs)
set_option maxRecDepth 100000 in
theorem RdSS.nil (w : World) (B : Nat) (a : Option Addr) (c : Nat) : RdSS w B (.slice a 0 c) [] := ⟨a, c, rfl, fun h => absurd rfl h⟩
set_option maxRecDepth 100000 in
theorem RdSS.ext {w w' : World} {B : Nat} {v : Value} {xss : List (List Int)} (h : RdSS w B v xss) (hw : Ext w w') : RdSS w' B v xss := by
  obtain ⟨a, c, hv, ho⟩ := h
  refine ⟨a, c, hv, fun hne => ?_⟩
  obtain ⟨b, off, ha, hb, hj⟩ := ho hne
  refine ⟨b, off, ha, hb, fun j xs hx => ?_⟩
  obtain ⟨u, h0, h1⟩ := hj j xs hx
  exact ⟨u, hw.keep h0, h1.ext hw⟩
set_option maxRecDepth 100000 in
theorem RdSS.rng {w w' : World} {B lo hi : Nat} {v : Value} {xss : List (List Int)} (h : RdSS w B v xss) (hg : B ≤ lo) (hw : Rng lo hi w w') : RdSS w' B v xss := by
  obtain ⟨a, c, hv, ho⟩ := h
  refine ⟨a, c, hv, fun hne => ?_⟩
  obtain ⟨b, off, ha, hb, hj⟩ := ho hne
  refine ⟨b, off, ha, hb, fun j xs hx => ?_⟩
  obtain ⟨u, h0, h1⟩ := hj j xs hx
  exact ⟨u, hw.keep (.inl (show b < lo by omega)) h0, h1.rng hg hw⟩
set_option maxRecDepth 100000 in
theorem RdB.up {w : World} {B B' : Nat} {v : Value} {xs : List Int} (h : RdB w B v xs) (hb : B ≤ B') : RdB w B' v xs := by
  obtain ⟨a, c, hv, hR, h1⟩ := h
  exact ⟨a, c, hv, hR, fun b off ha hne => Nat.lt_of_lt_of_le (h1 b off ha hne) hb⟩
set_option maxRecDepth 100000 in
theorem Mat.rd {w : World} {B g n c : Nat} {us : Nat → Value} {xss : List (List Int)} (h : Mat w B g n us (fun o => xss.getD o [])) (hn : xss.length = n) : RdSS w w.heap.size (.slice (some ⟨g, 0, none⟩) n c) xss := by
  subst hn
  refine ⟨_, _, rfl, fun _ => ⟨g, 0, rfl, h.outer.lt, fun j xs hx => ⟨us j, ?_, ?_⟩⟩⟩
  · rw [Nat.zero_add]; exact h.outer.cell j (lt_of_at hx)
  · have h1 := (h.row j (lt_of_at hx)).fr.rdB
    simpa [List.getD, hx] using h1
set_option maxRecDepth 100000 in
theorem WrSS.rd {w : World} {B : Nat} {v : Value} {xss : List (List Int)} (h : WrSS w B v xss) : RdSS w w.heap.size v xss := by
  obtain ⟨a, c, hv, hc, ho⟩ := h
  subst hv
  by_cases hne : xss = []
  · subst hne; exact RdSS.nil _ _ _ _
  · obtain ⟨g, us, rfl, hM⟩ := ho hne
    exact hM.rd rfl
set_option maxRecDepth 100000 in
theorem RdSS.at_ {w : World} {B : Nat} {a : Option Addr} {n c : Nat} {xss : List (List Int)} (h : RdSS w B (.slice a n c) xss) {k : Nat} {xs : List Int} (hx : xss[k]? = some xs) :
    ∃ b off a' c', a = some ⟨b, off, none⟩ ∧ w.cell? ⟨b, off + k, none⟩ = some (.slice a' xs.length c') ∧ RdI w a' xs := by
  obtain ⟨a1, c1, hv, ho⟩ := h
  injection hv with e1 e2 e3
  subst e1
  obtain ⟨b, off, ha, _, hj⟩ := ho (ne_of_at hx)
  obtain ⟨u, h0, a', c', rfl, hR, _⟩ := hj k xs hx
  exact ⟨b, off, a', c', ha, h0, hR⟩

/-- How many numbers stand before row k. -/
def totL (xss : List (List Int)) (k : Nat) : Nat := ((xss.take k).map List.length).sum
set_option maxRecDepth 100000 in
theorem totL_zero (xss : List (List Int)) : totL xss 0 = 0 := by simp [totL]
set_option maxRecDepth 100000 in
theorem totL_at {xss : List (List Int)} {k : Nat} {xs : List Int} (h : xss[k]? = some xs) : totL xss (k + 1) = totL xss k + xs.length := by
  unfold totL; rw [take_at h]; simp
set_option maxRecDepth 100000 in
theorem totL_le {xss : List (List Int)} {m : Nat} (h : ∀ x ∈ xss, x.length ≤ m) : ∀ k, k ≤ xss.length → totL xss k ≤ m * k
  | 0, _ => by simp [totL]
  | k + 1, hk => by
    obtain ⟨x, hx⟩ := at_of_lt (xs := xss) (k := k) (by omega)
    have h1 := totL_le h k (by omega)
    have h2 := h x (List.mem_of_getElem? hx)
    rw [totL_at hx, Nat.mul_succ]; omega
def markL (k : Int) (n : Nat) : List Int := (List.range n).map fun j : Nat => k + (j : Int)
set_option maxRecDepth 100000 in
theorem BlkF.marks {w : World} {g n : Nat} {k0 : Int} (h : BlkF w g n (fun j => .int .i64 (k0 + j))) : RdI w (some ⟨g, 0, none⟩) (markL k0 n) := fun _ => ⟨g, 0, rfl, fun j x hx => by
  have hj := lt_of_at hx
  unfold markL at hx hj
  rw [List.length_map, List.length_range] at hj
  rw [Nat.zero_add, h.cell j hj]
  simp only [List.getElem?_map, List.getElem?_range hj, Option.map_some] at hx
  injection hx with hx
  rw [← hx]⟩

/-- While the matrix is overwritten by marks: rows below k hold them. -/
structure MkSS (w : World) (lo hi g : Nat) (us : Nat → Value) (xss : List (List Int)) (k0 : Int) (k : Nat) : Prop where
  b1 : lo ≤ g
  b2 : g < hi
  outer : BlkF w g xss.length us
  row : ∀ j xs, xss[j]? = some xs → k ≤ j → OwnI w lo (us j) xs ∧ ∀ b, (us j).ownBlock = some b → b < hi
  far : ∀ o, o < xss.length → (us o).ownBlock ≠ some g
  dis : ∀ o o' k, o < xss.length → o' < xss.length → o ≠ o' → (us o).ownBlock = some k → (us o').ownBlock ≠ some k
  done : ∀ j xs, xss[j]? = some xs → j < k → ∃ a c, us j = .slice a xs.length c ∧ RdI w a (markL (k0 + totL xss j) xs.length) ∧ (a = none ∨ ∃ b, a = some ⟨b, 0, none⟩)

set_option maxRecDepth 100000 in
theorem Mat.mkSS {w : World} {B g : Nat} {us : Nat → Value} {xss : List (List Int)} (h : Mat w B g xss.length us (fun o => xss.getD o [])) (k0 : Int) : MkSS w B w.heap.size g us xss k0 0 :=
  ⟨h.base, h.outer.lt, h.outer, fun j xs hx _ => by
    have h1 := h.row j (lt_of_at hx)
    simp only [List.getD, hx, Option.getD_some] at h1
    exact ⟨h1, fun b hb => (World.ownsRow.lt h1 b hb).2⟩, h.far, h.dis, fun j xs _ hj => absurd hj (by omega)⟩
set_option maxRecDepth 100000 in
theorem MkSS.ext {w w' : World} {lo hi g : Nat} {us : Nat → Value} {xss : List (List Int)} {k0 : Int} {k : Nat} (h : MkSS w lo hi g us xss k0 k) (hw : Ext w w') : MkSS w' lo hi g us xss k0 k :=
  ⟨h.b1, h.b2, h.outer.ext hw, fun j xs hx hk => ⟨((h.row j xs hx hk).1).ext hw, (h.row j xs hx hk).2⟩, h.far, h.dis, fun j xs hx hj => by
    obtain ⟨a, c, e, hR, ha⟩ := h.done j xs hx hj
    exact ⟨a, c, e, hR.ext hw, ha⟩⟩
set_option maxRecDepth 100000 in
theorem Only.rdN {g : Nat} {w w' : World} (h : Only g w w') {a : Option Addr} {xs : List Int} (hr : RdI w a xs) (ha : a = none ∨ ∃ b, a = some ⟨b, 0, none⟩ ∧ b ≠ g) : RdI w' a xs := by
  rcases ha with rfl | ⟨b, rfl, hb⟩
  · intro hne; obtain ⟨_, _, e, _⟩ := hr hne; cases e
  · exact h.rdI hr (fun b' off e => by injection e with e; injection e with e; subst e; exact hb)
set_option maxRecDepth 100000 in
/-- The next row is marked. -/
theorem MkSS.step {w : World} {lo hi g : Nat} {us : Nat → Value} {xss : List (List Int)} {k0 : Int} {k : Nat} (h : MkSS w lo hi g us xss k0 k) {xs : List Int} (hx : xss[k]? = some xs) :
    ∃ a c, us k = .slice a xs.length c ∧ w.cell? ⟨g, k, none⟩ = some (.slice a xs.length c) ∧ ((xs = [] ∧ MkSS w lo hi g us xss k0 (k + 1)) ∨ ∃ b f, a = some ⟨b, 0, none⟩ ∧ lo ≤ b ∧ b < hi ∧ BlkF w b xs.length f ∧
      ∀ w', Only b w w' → BlkF w' b xs.length (fun j => .int .i64 (k0 + totL xss k + j)) → MkSS w' lo hi g us xss k0 (k + 1)) := by
  have hk := lt_of_at hx
  obtain ⟨hO, hb⟩ := h.row k xs hx (Nat.le_refl _)
  have hO' := hO
  obtain ⟨a, c, hv, hc, _, hR, ho⟩ := hO.val
  refine ⟨a, c, hv, by rw [h.outer.cell k hk, hv], ?_⟩
  have hcase : a = none ∨ ∃ b, a = some ⟨b, 0, none⟩ := by
    unfold OwnI World.ownsRow at hO'
    rcases hO'.2 with ⟨e, _⟩ | ⟨b, cap, cur, e, _⟩
    · rw [hv] at e; injection e with e1; exact .inl e1
    · rw [hv] at e; injection e with e1; exact .inr ⟨b, e1⟩
  by_cases hne : xs = []
  · refine .inl ⟨hne, h.b1, h.b2, h.outer, fun j ys hy hj => h.row j ys hy (by omega), h.far, h.dis, fun j ys hy hj => ?_⟩
    by_cases e : j = k
    · subst e
      rw [hx] at hy
      injection hy with hy
      subst hy
      subst hne
      exact ⟨a, c, hv, fun hne2 => absurd rfl hne2, hcase⟩
    · exact h.done j ys hy (by omega)
  · obtain ⟨b, ha, hB, hblk⟩ := ho hne
    have hbk : (us k).ownBlock = some b := by rw [hv, ha]; rfl
    refine .inr ⟨b, _, ha, hB, hb b hbk, hblk, fun w' hw hb' => ?_⟩
    have hbg : b ≠ g := fun e => h.far k hk (by rw [hbk, e])
    refine ⟨h.b1, h.b2, hw.blk h.outer (Ne.symm hbg), fun j ys hy hj => ?_, h.far, h.dis, fun j ys hy hj => ?_⟩
    · obtain ⟨h1, h2⟩ := h.row j ys hy (by omega)
      exact ⟨h1.keepRow hw (.inr (fun e => h.dis k j b hk (lt_of_at hy) (by omega) hbk e)), h2⟩
    · by_cases e : j = k
      · subst e
        rw [hx] at hy
        injection hy with hy
        subst hy
        exact ⟨a, c, hv, by rw [ha]; exact hb'.marks, hcase⟩
      · obtain ⟨a1, c1, e1, hR1, ha1⟩ := h.done j ys hy (by omega)
        refine ⟨a1, c1, e1, hw.rdN hR1 ?_, ha1⟩
        rcases ha1 with rfl | ⟨b1, rfl⟩
        · exact .inl rfl
        · refine .inr ⟨b1, rfl, fun e2 => h.dis k j b hk (lt_of_at hy) (by omega) hbk ?_⟩
          rw [e1, e2]; rfl

/-- v is a matrix that holds marks. -/
def Mark2 (w : World) (v : Value) (xss : List (List Int)) (k0 : Int) : Prop := ∃ a c, v = .slice a xss.length c ∧
  (xss ≠ [] → ∃ g, a = some ⟨g, 0, none⟩ ∧ ∀ j xs, xss[j]? = some xs → ∃ a' c', w.cell? ⟨g, j, none⟩ = some (.slice a' xs.length c') ∧ RdI w a' (markL (k0 + totL xss j) xs.length))
set_option maxRecDepth 100000 in
theorem Mark2.ext {w w' : World} {v : Value} {xss : List (List Int)} {k0 : Int} (h : Mark2 w v xss k0) (hw : Ext w w') : Mark2 w' v xss k0 := by
  obtain ⟨a, c, hv, ho⟩ := h
  refine ⟨a, c, hv, fun hne => ?_⟩
  obtain ⟨g, ha, hj⟩ := ho hne
  refine ⟨g, ha, fun j xs hx => ?_⟩
  obtain ⟨a', c', h0, h1⟩ := hj j xs hx
  exact ⟨a', c', hw.keep h0, h1.ext hw⟩

end Go.Proofs.Ythiojkpoeejkaaa
