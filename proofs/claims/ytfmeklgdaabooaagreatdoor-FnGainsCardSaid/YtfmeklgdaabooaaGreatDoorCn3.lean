/- Profiles compared whole, and overwritten by marks. Lists of lists of integers in memory: read, compared, written, marked, held. Lists of lists built by appends. -/
import Derived.Test.YtfmeklgdaabooaaGreatDoorCn2
import Derived.Laws.OwnMore
namespace Go.Proofs.YtfmeklgdaabooaaGreatDoor
open Go.RowKit

/-- What is left of a copy whose first k votes have been overwritten. -/
def MkV (w : World) (lo hi : Nat) (g : Nat) (vs : List Vt) (k : Nat) : Prop := ∃ (f : Nat → Value) (h : Nat → Nat), lo ≤ g ∧ g < hi ∧ BlkF w g (vs.length * 2) f ∧
  ∀ j x, k ≤ j → vs[j]? = some x → f (j * 2) = .slice (some ⟨h j, 0, none⟩) x.1.length x.1.length ∧ g < h j ∧ h j < hi ∧
    (∀ i, k ≤ i → i < j → h i < h j) ∧ ∃ fi, BlkF w (h j) x.1.length fi
set_option maxRecDepth 100000 in
theorem OwnV.mk {w : World} {lo hi g : Nat} {vs : List Vt} (h : OwnV w lo hi g vs vs.length) : MkV w lo hi g vs 0 := by
  obtain ⟨f, h, h1, h2, hB, hj⟩ := h
  refine ⟨f, h, h1, h2, hB, fun j x _ hx => ?_⟩
  obtain ⟨a0, a1, a2, a3, a4, fi, a5, a6⟩ := hj j x (lt_of_at hx) hx
  exact ⟨a0, a2, a3, fun i _ hi => a4 i hi, fi, a5⟩
set_option maxRecDepth 100000 in
theorem MkV.ext {w w' : World} {lo hi g k : Nat} {vs : List Vt} (h : MkV w lo hi g vs k) (hw : Ext w w') : MkV w' lo hi g vs k := by
  obtain ⟨f, h, h1, h2, hB, hj⟩ := h
  refine ⟨f, h, h1, h2, hB.ext hw, fun j x hk hx => ?_⟩
  obtain ⟨a0, a2, a3, a4, fi, a5⟩ := hj j x hk hx
  exact ⟨a0, a2, a3, a4, fi, a5.ext hw⟩
set_option maxRecDepth 100000 in
theorem MkV.at_ {w : World} {lo hi g k : Nat} {vs : List Vt} {x : Vt} (h : MkV w lo hi g vs k) (hx : vs[k]? = some x) :
    ∃ gk fi v, w.cell? ⟨g, k * 2, none⟩ = some (.slice (some ⟨gk, 0, none⟩) x.1.length x.1.length) ∧ w.cell? ⟨g, k * 2 + 1, none⟩ = some v ∧ (∀ o, w.frozen? ⟨g, o, none⟩ = false) ∧ lo ≤ gk ∧ gk < hi ∧ BlkF w gk x.1.length fi ∧
      ∀ w', Only gk w w' → (∀ o, w'.frozen? ⟨g, o, none⟩ = false) ∧ w'.cell? ⟨g, k * 2 + 1, none⟩ = some v ∧ ∀ u, MkV (w'.setCell ⟨g, k * 2 + 1, none⟩ u) lo hi g vs (k + 1) := by
  obtain ⟨f, h, h1, h2, hB, hj⟩ := h
  have hl := lt_of_at hx
  obtain ⟨a0, a2, a3, a4, fi, a5⟩ := hj k x (Nat.le_refl _) hx
  refine ⟨h k, fi, _, ?_, hB.cell _ (by omega), hB.fr, by omega, a3, a5, fun w' hw => ?_⟩
  · rw [hB.cell _ (by omega), a0]
  · have hB' := hw.blk hB (by omega)
    refine ⟨hB'.fr, hB'.cell _ (by omega), fun u => ⟨_, h, h1, h2, hB'.set _ (by omega) u, fun j y hk hy => ?_⟩⟩
    obtain ⟨b0, b2, b3, b4, fj, b5⟩ := hj j y (by omega) hy
    have := b4 k (Nat.le_refl _) (by omega)
    refine ⟨?_, b2, b3, fun i h3 h4 => b4 i (by omega) h4, fj, (hw.blk b5 (by omega)).far (by simp; omega) _⟩
    rw [if_neg (by omega)]; exact b0

set_option maxRecDepth 100000 in
/-- One cell of a list of the call's own is written. -/
theorem OwnI.store {w : World} {B : Nat} {v : Value} {xs : List Int} (h : OwnI w B v xs) {i : Nat} {x : Int} (hx : xs[i]? = some x) :
    ∃ g c, v = .slice (some ⟨g, 0, none⟩) xs.length c ∧ v.ownBlock = some g ∧ B ≤ g ∧ g < w.heap.size ∧ w.cell? ⟨g, i, none⟩ = some (.int .i64 x) ∧ w.frozen? ⟨g, i, none⟩ = false ∧
      ∀ y, OwnI (w.setCell ⟨g, i, none⟩ (.int .i64 y)) B v (xs.set i y) := by
  have h0 := h
  unfold OwnI at h
  obtain ⟨h1, h2⟩ := h
  rcases h2 with ⟨rfl, h2⟩ | ⟨g, cap, cur, rfl, hg, hh, r⟩
  · have := lt_of_at hx; omega
  · have hl := (World.ownsRow.lt h0 g rfl).2
    refine ⟨g, cap, rfl, rfl, hg, hl, ?_, World.ownsRow.frozenAt h0 i, fun y => ?_⟩
    · rw [World.ownsRow.cellAt h0 i (by have := lt_of_at hx; omega)]; simp [hx]
    · have h3 := (World.ownsRow.stored h0 i (.int .i64 y)).1
      unfold OwnI
      rw [List.length_set, List.map_set]
      exact h3

set_option maxRecDepth 100000 in
theorem OwnI.storeAt {w : World} {B g n c : Nat} {xs : List Int} (h : OwnI w B (.slice (some ⟨g, 0, none⟩) n c) xs) {i : Nat} {x : Int} (hx : xs[i]? = some x) :
    w.cell? ⟨g, i, none⟩ = some (.int .i64 x) ∧ w.frozen? ⟨g, i, none⟩ = false ∧ ∀ y, OwnI (w.setCell ⟨g, i, none⟩ (.int .i64 y)) B (.slice (some ⟨g, 0, none⟩) n c) (xs.set i y) := by
  obtain ⟨g', c', hv, _, _, _, h0, h1, h2⟩ := h.store hx
  injection hv with hv
  injection hv with hv
  injection hv with hv
  subst hv
  exact ⟨h0, h1, h2⟩

/-- A matrix in memory: block g holds the n rows us, row o reads as rows o; all may be written. -/
structure Mat (w : World) (B g n : Nat) (us : Nat → Value) (rows : Nat → List Int) : Prop where
  base : B ≤ g
  outer : BlkF w g n us
  row : ∀ o, o < n → OwnI w B (us o) (rows o)
  far : ∀ o, o < n → (us o).ownBlock ≠ some g
  dis : ∀ o o' k, o < n → o' < n → o ≠ o' → (us o).ownBlock = some k → (us o').ownBlock ≠ some k

set_option maxRecDepth 100000 in
theorem Mat.ext {w w' : World} {B g n : Nat} {us : Nat → Value} {rows : Nat → List Int} (h : Mat w B g n us rows) (hw : Ext w w') : Mat w' B g n us rows :=
  ⟨h.base, h.outer.ext hw, fun o ho => (h.row o ho).ext hw, h.far, h.dis⟩
set_option maxRecDepth 100000 in
theorem Mat.low {w : World} {B B' g n : Nat} {us : Nat → Value} {rows : Nat → List Int} (h : Mat w B g n us rows) (hb : B' ≤ B) : Mat w B' g n us rows :=
  ⟨Nat.le_trans hb h.base, h.outer, fun o ho => (h.row o ho).base hb, h.far, h.dis⟩
set_option maxRecDepth 100000 in
theorem Mat.congr {w : World} {B g n : Nat} {us : Nat → Value} {rows rows' : Nat → List Int} (h : Mat w B g n us rows) (hr : ∀ o, o < n → rows o = rows' o) : Mat w B g n us rows' :=
  ⟨h.base, h.outer, fun o ho => by rw [← hr o ho]; exact h.row o ho, h.far, h.dis⟩

set_option maxRecDepth 100000 in
theorem setCell_row (w : World) (g i : Nat) (v : Value) : w.grownBy (w.setCell ⟨g, i, none⟩ v) (some g) :=
  ⟨rfl, rfl, rfl, by simp [World.setCell], fun k _ hne => Below.heap_setCell w _ v k (fun e => hne (congrArg some e))⟩
set_option maxRecDepth 100000 in
theorem OwnI.keepRow {w w' : World} {B : Nat} {v : Value} {xs : List Int} {row : Option Nat} (h : OwnI w B v xs) (hg : w.grownBy w' row) (hne : v.ownBlock = none ∨ v.ownBlock ≠ row) : OwnI w' B v xs := World.ownsRow.kept h hg hne

set_option maxRecDepth 100000 in
/-- A cell of the matrix is read and written. -/
theorem Mat.cell {w : World} {B g n : Nat} {us : Nat → Value} {rows : Nat → List Int} (h : Mat w B g n us rows) {i j : Nat} {x : Int} (hi : i < n) (hx : (rows i)[j]? = some x) :
    ∃ b c, us i = .slice (some ⟨b, 0, none⟩) (rows i).length c ∧ w.cell? ⟨g, i, none⟩ = some (.slice (some ⟨b, 0, none⟩) (rows i).length c) ∧ B ≤ b ∧ w.cell? ⟨b, j, none⟩ = some (.int .i64 x) ∧ w.frozen? ⟨b, j, none⟩ = false ∧
      ∀ y, Mat (w.setCell ⟨b, j, none⟩ (.int .i64 y)) B g n us (fun o => if o = i then (rows i).set j y else rows o) := by
  obtain ⟨b, c, hv, hb, hB, _, h0, h1, h2⟩ := (h.row i hi).store hx
  refine ⟨b, c, hv, by rw [h.outer.cell i hi, hv], hB, h0, h1, fun y => ⟨h.base, ?_, fun o ho => ?_, h.far, h.dis⟩⟩
  · exact h.outer.far (fun e => h.far i hi (by rw [hb]; exact congrArg some e)) _
  · by_cases e : o = i
    · subst e; rw [if_pos rfl]; exact h2 y
    · rw [if_neg e]
      exact (h.row o ho).keepRow (setCell_row w b j _) (.inr (fun e2 => h.dis i o b hi ho (Ne.symm e) hb e2))

set_option maxRecDepth 100000 in
/-- A row of the matrix is replaced. -/
theorem Mat.put {w w' : World} {B g n : Nat} {us : Nat → Value} {rows : Nat → List Int} (h : Mat w B g n us rows) {i : Nat} (hi : i < n) {u : Value} {xs : List Int} {row : Option Nat} (hg : w.grownBy w' row)
    (hr : ∀ k, row = some k → k ≠ g ∧ ∀ o, o < n → o ≠ i → (us o).ownBlock ≠ some k)
    (hu : OwnI w' B u xs) (hk : ∀ k, u.ownBlock = some k → k ≠ g ∧ ∀ o, o < n → o ≠ i → (us o).ownBlock ≠ some k) :
    Mat (w'.setCell ⟨g, i, none⟩ u) B g n (fun o => if o = i then u else us o) (fun o => if o = i then xs else rows o) := by
  have hB : BlkF w' g n us := by
    have hgr : w'.heap[g]? = w.heap[g]? := hg.block g h.outer.lt (fun e => (hr g e.symm).1 rfl)
    exact ⟨Nat.lt_of_lt_of_le h.outer.lt hg.size, fun o => (World.frozen?_of_block (w := w) hgr).trans (h.outer.fr o), fun o ho => (World.cell?_of_block (w := w) hgr).trans (h.outer.cell o ho)⟩
  refine ⟨h.base, hB.set i hi u, fun o ho => ?_, fun o ho => ?_, fun o o' k ho ho' hne hk1 => ?_⟩
  · by_cases e : o = i
    · subst e; rw [if_pos rfl, if_pos rfl]
      exact hu.keepRow (setCell_row w' g o u) (by
        cases hu1 : u.ownBlock with
        | none => exact .inl rfl
        | some k => exact .inr (fun e => (hk k hu1).1 (by injection e)))
    · rw [if_neg e, if_neg e]
      have h1 : OwnI w' B (us o) (rows o) := (h.row o ho).keepRow hg (by
        cases hrow : row with
        | none => by_cases hn : (us o).ownBlock = none
                  · exact .inl hn
                  · exact .inr hn
        | some k => exact .inr ((hr k hrow).2 o ho e))
      exact h1.keepRow (setCell_row w' g i u) (.inr (h.far o ho))
  · by_cases e : o = i
    · subst e; rw [if_pos rfl]; exact fun e => (hk g e).1 rfl
    · rw [if_neg e]; exact h.far o ho
  · by_cases e : o = i
    · subst e
      rw [if_pos rfl] at hk1
      rw [if_neg (Ne.symm hne)]
      exact (hk k hk1).2 o' ho' (Ne.symm hne)
    · rw [if_neg e] at hk1
      by_cases e2 : o' = i
      · subst e2
        rw [if_pos rfl]
        exact fun h3 => (hk k h3).2 o ho e hk1
      · rw [if_neg e2]
        exact h.dis o o' k ho ho' hne hk1

/-- v is the list xss of lists, all of it the call's own. -/
def WrSS (w : World) (B : Nat) (v : Value) (xss : List (List Int)) : Prop := ∃ a c, v = .slice a xss.length c ∧ xss.length ≤ c ∧
  (xss ≠ [] → ∃ g us, a = some ⟨g, 0, none⟩ ∧ Mat w B g xss.length us (fun o => xss.getD o []))
set_option maxRecDepth 100000 in
theorem WrSS.nil (w : World) (B : Nat) (a : Option Addr) (c : Nat) : WrSS w B (.slice a 0 c) [] := ⟨a, c, rfl, Nat.zero_le _, fun h => absurd rfl h⟩
set_option maxRecDepth 100000 in
theorem WrSS.ext {w w' : World} {B : Nat} {v : Value} {xss : List (List Int)} (h : WrSS w B v xss) (hw : Ext w w') : WrSS w' B v xss := by
  obtain ⟨a, c, hv, hc, ho⟩ := h
  refine ⟨a, c, hv, hc, fun hne => ?_⟩
  obtain ⟨g, us, ha, hM⟩ := ho hne
  exact ⟨g, us, ha, hM.ext hw⟩
set_option maxRecDepth 100000 in
theorem WrSS.base {w : World} {B B' : Nat} {v : Value} {xss : List (List Int)} (h : WrSS w B v xss) (hb : B' ≤ B) : WrSS w B' v xss := by
  obtain ⟨a, c, hv, hc, ho⟩ := h
  refine ⟨a, c, hv, hc, fun hne => ?_⟩
  obtain ⟨g, us, ha, hM⟩ := ho hne
  exact ⟨g, us, ha, hM.low hb⟩
set_option maxRecDepth 100000 in
theorem WrSS.rng {w w' : World} {B lo hi : Nat} {v : Value} {xss : List (List Int)} (h : WrSS w B v xss) (hg : hi ≤ B) (hw : Rng lo hi w w') : WrSS w' B v xss := by
  obtain ⟨a, c, hv, hc, ho⟩ := h
  refine ⟨a, c, hv, hc, fun hne => ?_⟩
  obtain ⟨g, us, ha, hM⟩ := ho hne
  have := hM.base
  refine ⟨g, us, ha, hM.base, ⟨Nat.lt_of_lt_of_le hM.outer.lt hw.size, fun o => (World.frozen?_of_block (w := w) (hw.block g hM.outer.lt (by omega))).trans (hM.outer.fr o), fun o ho => hw.keep (.inr (show hi ≤ g by omega)) (hM.outer.cell o ho)⟩,
    fun o ho => (hM.row o ho).rng hg hw, hM.far, hM.dis⟩
set_option maxRecDepth 100000 in
theorem Mat.wr {w : World} {B g n c : Nat} {us : Nat → Value} {rows : Nat → List Int} (h : Mat w B g n us rows) (hc : n ≤ c) : WrSS w B (.slice (some ⟨g, 0, none⟩) n c) ((List.range n).map rows) := by
  refine ⟨some ⟨g, 0, none⟩, c, by simp, by simpa using hc, fun _ => ⟨g, us, rfl, ?_⟩⟩
  rw [List.length_map, List.length_range]
  exact h.congr (fun o ho => by simp [List.getD, ho])

/-- v reads as xss, in blocks below B. -/
def RdSS (w : World) (B : Nat) (v : Value) (xss : List (List Int)) : Prop := ∃ a c, v = .slice a xss.length c ∧ (xss ≠ [] → ∃ b off, a = some ⟨b, off, none⟩ ∧ b < B ∧
  ∀ j xs, xss[j]? = some xs → ∃ u, w.cell? ⟨b, off + j, none⟩ = some u ∧ RdB w B u xs)
set_option maxRecDepth 100000 in
theorem RdSS.nil (w : World) (B : Nat) (a : Option Addr) (c : Nat) : RdSS w B (.slice a 0 c) [] := ⟨a, c, rfl, fun h => absurd rfl h⟩
set_option maxRecDepth 100000 in
theorem RdSS.ext {w w' : World} {B : Nat} {v : Value} {xss : List (List Int)} (h : RdSS w B v xss) (hw : Ext w w') : RdSS w' B v xss := by
  obtain ⟨a, c, hv, ho⟩ := h
  refine ⟨a, c, hv, fun hne => ?_⟩
  obtain ⟨b, off, ha, hb, hj⟩ := ho hne
  refine ⟨b, off, ha, hb, fun j xs hx => ?_⟩
  obtain ⟨u, h0, h1⟩ := hj j xs hx
  exact ⟨u, hw.keep h0, h1.ext hw⟩
set_option maxRecDepth 100000 in
theorem RdSS.rng {w w' : World} {B lo hi : Nat} {v : Value} {xss : List (List Int)} (h : RdSS w B v xss) (hg : B ≤ lo) (hw : Rng lo hi w w') : RdSS w' B v xss := by
  obtain ⟨a, c, hv, ho⟩ := h
  refine ⟨a, c, hv, fun hne => ?_⟩
  obtain ⟨b, off, ha, hb, hj⟩ := ho hne
  refine ⟨b, off, ha, hb, fun j xs hx => ?_⟩
  obtain ⟨u, h0, h1⟩ := hj j xs hx
  exact ⟨u, hw.keep (.inl (show b < lo by omega)) h0, h1.rng hg hw⟩
set_option maxRecDepth 100000 in
theorem RdB.up {w : World} {B B' : Nat} {v : Value} {xs : List Int} (h : RdB w B v xs) (hb : B ≤ B') : RdB w B' v xs := by
  obtain ⟨a, c, hv, hR, h1⟩ := h
  exact ⟨a, c, hv, hR, fun b off ha hne => Nat.lt_of_lt_of_le (h1 b off ha hne) hb⟩
set_option maxRecDepth 100000 in
theorem Mat.rd {w : World} {B g n c : Nat} {us : Nat → Value} {xss : List (List Int)} (h : Mat w B g n us (fun o => xss.getD o [])) (hn : xss.length = n) : RdSS w w.heap.size (.slice (some ⟨g, 0, none⟩) n c) xss := by
  subst hn
  refine ⟨_, _, rfl, fun _ => ⟨g, 0, rfl, h.outer.lt, fun j xs hx => ⟨us j, ?_, ?_⟩⟩⟩
  · rw [Nat.zero_add]; exact h.outer.cell j (lt_of_at hx)
  · have h1 := (h.row j (lt_of_at hx)).fr.rdB
    simpa [List.getD, hx] using h1
set_option maxRecDepth 100000 in
theorem WrSS.rd {w : World} {B : Nat} {v : Value} {xss : List (List Int)} (h : WrSS w B v xss) : RdSS w w.heap.size v xss := by
  obtain ⟨a, c, hv, hc, ho⟩ := h
  subst hv
  by_cases hne : xss = []
  · subst hne; exact RdSS.nil _ _ _ _
  · obtain ⟨g, us, rfl, hM⟩ := ho hne
    exact hM.rd rfl
set_option maxRecDepth 100000 in
theorem RdSS.at_ {w : World} {B : Nat} {a : Option Addr} {n c : Nat} {xss : List (List Int)} (h : RdSS w B (.slice a n c) xss) {k : Nat} {xs : List Int} (hx : xss[k]? = some xs) :
    ∃ b off a' c', a = some ⟨b, off, none⟩ ∧ w.cell? ⟨b, off + k, none⟩ = some (.slice a' xs.length c') ∧ RdI w a' xs := by
  obtain ⟨a1, c1, hv, ho⟩ := h
  injection hv with e1 e2 e3
  subst e1
  obtain ⟨b, off, ha, _, hj⟩ := ho (ne_of_at hx)
  obtain ⟨u, h0, a', c', rfl, hR, _⟩ := hj k xs hx
  exact ⟨b, off, a', c', ha, h0, hR⟩

/-- How many numbers stand before row k. -/
def totL (xss : List (List Int)) (k : Nat) : Nat := ((xss.take k).map List.length).sum
set_option maxRecDepth 100000 in
theorem totL_zero (xss : List (List Int)) : totL xss 0 = 0 := by simp [totL]
set_option maxRecDepth 100000 in
theorem totL_at {xss : List (List Int)} {k : Nat} {xs : List Int} (h : xss[k]? = some xs) : totL xss (k + 1) = totL xss k + xs.length := by
  unfold totL; rw [take_at h]; simp
set_option maxRecDepth 100000 in
theorem totL_le {xss : List (List Int)} {m : Nat} (h : ∀ x ∈ xss, x.length ≤ m) : ∀ k, k ≤ xss.length → totL xss k ≤ m * k
  | 0, _ => by simp [totL]
  | k + 1, hk => by
    obtain ⟨x, hx⟩ := at_of_lt (xs := xss) (k := k) (by omega)
    have h1 := totL_le h k (by omega)
    have h2 := h x (List.mem_of_getElem? hx)
    rw [totL_at hx, Nat.mul_succ]; omega
def markL (k : Int) (n : Nat) : List Int := (List.range n).map fun j : Nat => k + (j : Int)
set_option maxRecDepth 100000 in
theorem BlkF.marks {w : World} {g n : Nat} {k0 : Int} (h : BlkF w g n (fun j => .int .i64 (k0 + j))) : RdI w (some ⟨g, 0, none⟩) (markL k0 n) := fun _ => ⟨g, 0, rfl, fun j x hx => by
  have hj := lt_of_at hx
  unfold markL at hx hj
  rw [List.length_map, List.length_range] at hj
  rw [Nat.zero_add, h.cell j hj]
  simp only [List.getElem?_map, List.getElem?_range hj, Option.map_some] at hx
  injection hx with hx
  rw [← hx]⟩

/-- While the matrix is overwritten by marks: rows below k hold them. -/
structure MkSS (w : World) (lo hi g : Nat) (us : Nat → Value) (xss : List (List Int)) (k0 : Int) (k : Nat) : Prop where
  b1 : lo ≤ g
  b2 : g < hi
  outer : BlkF w g xss.length us
  row : ∀ j xs, xss[j]? = some xs → k ≤ j → OwnI w lo (us j) xs ∧ ∀ b, (us j).ownBlock = some b → b < hi
  far : ∀ o, o < xss.length → (us o).ownBlock ≠ some g
  dis : ∀ o o' k, o < xss.length → o' < xss.length → o ≠ o' → (us o).ownBlock = some k → (us o').ownBlock ≠ some k
  done : ∀ j xs, xss[j]? = some xs → j < k → ∃ a c, us j = .slice a xs.length c ∧ RdI w a (markL (k0 + totL xss j) xs.length) ∧ (a = none ∨ ∃ b, a = some ⟨b, 0, none⟩)

set_option maxRecDepth 100000 in
theorem Mat.mkSS {w : World} {B g : Nat} {us : Nat → Value} {xss : List (List Int)} (h : Mat w B g xss.length us (fun o => xss.getD o [])) (k0 : Int) : MkSS w B w.heap.size g us xss k0 0 :=
  ⟨h.base, h.outer.lt, h.outer, fun j xs hx _ => by
    have h1 := h.row j (lt_of_at hx)
    simp only [List.getD, hx, Option.getD_some] at h1
    exact ⟨h1, fun b hb => (World.ownsRow.lt h1 b hb).2⟩, h.far, h.dis, fun j xs _ hj => absurd hj (by omega)⟩
set_option maxRecDepth 100000 in
theorem MkSS.ext {w w' : World} {lo hi g : Nat} {us : Nat → Value} {xss : List (List Int)} {k0 : Int} {k : Nat} (h : MkSS w lo hi g us xss k0 k) (hw : Ext w w') : MkSS w' lo hi g us xss k0 k :=
  ⟨h.b1, h.b2, h.outer.ext hw, fun j xs hx hk => ⟨((h.row j xs hx hk).1).ext hw, (h.row j xs hx hk).2⟩, h.far, h.dis, fun j xs hx hj => by
    obtain ⟨a, c, e, hR, ha⟩ := h.done j xs hx hj
    exact ⟨a, c, e, hR.ext hw, ha⟩⟩
set_option maxRecDepth 100000 in
theorem Only.rdN {g : Nat} {w w' : World} (h : Only g w w') {a : Option Addr} {xs : List Int} (hr : RdI w a xs) (ha : a = none ∨ ∃ b, a = some ⟨b, 0, none⟩ ∧ b ≠ g) : RdI w' a xs := by
  rcases ha with rfl | ⟨b, rfl, hb⟩
  · intro hne; obtain ⟨_, _, e, _⟩ := hr hne; cases e
  · exact h.rdI hr (fun b' off e => by injection e with e; injection e with e; subst e; exact hb)
set_option maxRecDepth 100000 in
/-- The next row is marked. -/
theorem MkSS.step {w : World} {lo hi g : Nat} {us : Nat → Value} {xss : List (List Int)} {k0 : Int} {k : Nat} (h : MkSS w lo hi g us xss k0 k) {xs : List Int} (hx : xss[k]? = some xs) :
    ∃ a c, us k = .slice a xs.length c ∧ w.cell? ⟨g, k, none⟩ = some (.slice a xs.length c) ∧ ((xs = [] ∧ MkSS w lo hi g us xss k0 (k + 1)) ∨ ∃ b f, a = some ⟨b, 0, none⟩ ∧ lo ≤ b ∧ b < hi ∧ BlkF w b xs.length f ∧
      ∀ w', Only b w w' → BlkF w' b xs.length (fun j => .int .i64 (k0 + totL xss k + j)) → MkSS w' lo hi g us xss k0 (k + 1)) := by
  have hk := lt_of_at hx
  obtain ⟨hO, hb⟩ := h.row k xs hx (Nat.le_refl _)
  have hO' := hO
  obtain ⟨a, c, hv, hc, _, hR, ho⟩ := hO.val
  refine ⟨a, c, hv, by rw [h.outer.cell k hk, hv], ?_⟩
  have hcase : a = none ∨ ∃ b, a = some ⟨b, 0, none⟩ := by
    unfold OwnI World.ownsRow at hO'
    rcases hO'.2 with ⟨e, _⟩ | ⟨b, cap, cur, e, _⟩
    · rw [hv] at e; injection e with e1; exact .inl e1
    · rw [hv] at e; injection e with e1; exact .inr ⟨b, e1⟩
  by_cases hne : xs = []
  · refine .inl ⟨hne, h.b1, h.b2, h.outer, fun j ys hy hj => h.row j ys hy (by omega), h.far, h.dis, fun j ys hy hj => ?_⟩
    by_cases e : j = k
    · subst e
      rw [hx] at hy
      injection hy with hy
      subst hy
      subst hne
      exact ⟨a, c, hv, fun hne2 => absurd rfl hne2, hcase⟩
    · exact h.done j ys hy (by omega)
  · obtain ⟨b, ha, hB, hblk⟩ := ho hne
    have hbk : (us k).ownBlock = some b := by rw [hv, ha]; rfl
    refine .inr ⟨b, _, ha, hB, hb b hbk, hblk, fun w' hw hb' => ?_⟩
    have hbg : b ≠ g := fun e => h.far k hk (by rw [hbk, e])
    refine ⟨h.b1, h.b2, hw.blk h.outer (Ne.symm hbg), fun j ys hy hj => ?_, h.far, h.dis, fun j ys hy hj => ?_⟩
    · obtain ⟨h1, h2⟩ := h.row j ys hy (by omega)
      exact ⟨h1.keepRow hw (.inr (fun e => h.dis k j b hk (lt_of_at hy) (by omega) hbk e)), h2⟩
    · by_cases e : j = k
      · subst e
        rw [hx] at hy
        injection hy with hy
        subst hy
        exact ⟨a, c, hv, by rw [ha]; exact hb'.marks, hcase⟩
      · obtain ⟨a1, c1, e1, hR1, ha1⟩ := h.done j ys hy (by omega)
        refine ⟨a1, c1, e1, hw.rdN hR1 ?_, ha1⟩
        rcases ha1 with rfl | ⟨b1, rfl⟩
        · exact .inl rfl
        · refine .inr ⟨b1, rfl, fun e2 => h.dis k j b hk (lt_of_at hy) (by omega) hbk ?_⟩
          rw [e1, e2]; rfl

/-- v is a matrix that holds marks. -/
def Mark2 (w : World) (v : Value) (xss : List (List Int)) (k0 : Int) : Prop := ∃ a c, v = .slice a xss.length c ∧
  (xss ≠ [] → ∃ g, a = some ⟨g, 0, none⟩ ∧ ∀ j xs, xss[j]? = some xs → ∃ a' c', w.cell? ⟨g, j, none⟩ = some (.slice a' xs.length c') ∧ RdI w a' (markL (k0 + totL xss j) xs.length))
set_option maxRecDepth 100000 in
theorem Mark2.ext {w w' : World} {v : Value} {xss : List (List Int)} {k0 : Int} (h : Mark2 w v xss k0) (hw : Ext w w') : Mark2 w' v xss k0 := by
  obtain ⟨a, c, hv, ho⟩ := h
  refine ⟨a, c, hv, fun hne => ?_⟩
  obtain ⟨g, ha, hj⟩ := ho hne
  refine ⟨g, ha, fun j xs hx => ?_⟩
  obtain ⟨a', c', h0, h1⟩ := hj j xs hx
  exact ⟨a', c', hw.keep h0, h1.ext hw⟩

set_option maxRecDepth 100000 in
theorem info_row : (Tryz.prog.info? 28).map (fun i => (i.zero, i.size, i.bytes)) = some (some (.slice none 0 0), 1, 24) := by kernel_rfl
/-- v is a list of lists of the call's own, grown by appends. -/
def OwnSS (w : World) (B : Nat) (v : Value) (xss : List (List Int)) : Prop := ∃ cs : List Value, w.ownsRow B 28 1 v cs.length cs ∧ cs.length = xss.length ∧
  (∀ (j : Nat) (xs : List Int), xss[j]? = some xs → ∃ u, cs[j]? = some u ∧ OwnI w B u xs) ∧ (∀ (i j : Nat) (u u' : Value) (k : Nat), i ≠ j → cs[i]? = some u → cs[j]? = some u' → u.ownBlock = some k → u'.ownBlock ≠ some k)
set_option maxRecDepth 100000 in
theorem OwnSS.nil (w : World) (B : Nat) : OwnSS w B (.slice none 0 0) [] := ⟨[], World.ownsRow_nil _ _ _ _, rfl, fun j xs h => by simp at h, fun i j u u' k _ h => by simp at h⟩
set_option maxRecDepth 100000 in
theorem OwnSS.made0 (w : World) : OwnSS (w.alloc (.cells #[] 28)) w.heap.size (.slice (some ⟨w.heap.size, 0, none⟩) 0 0) [] :=
  ⟨[], ⟨rfl, .inr ⟨w.heap.size, 0, #[], rfl, Nat.le_refl _, heap_alloc_new _ _, Nat.le_refl _, by simp, rfl, rfl⟩⟩, rfl, fun j xs h => by simp at h, fun i j u u' k _ h => by simp at h⟩
set_option maxRecDepth 100000 in
theorem OwnSS.ext {w w' : World} {B : Nat} {v : Value} {xss : List (List Int)} (h : OwnSS w B v xss) (hw : Ext w w') : OwnSS w' B v xss := by
  obtain ⟨cs, h1, h2, h3, h4⟩ := h
  refine ⟨cs, ownsRow_ext h1 hw, h2, fun j xs hx => ?_, h4⟩
  obtain ⟨u, hu, ho⟩ := h3 j xs hx
  exact ⟨u, hu, ho.ext hw⟩
set_option maxRecDepth 100000 in
theorem OwnSS.base {w : World} {B B' : Nat} {v : Value} {xss : List (List Int)} (h : OwnSS w B v xss) (hb : B' ≤ B) : OwnSS w B' v xss := by
  obtain ⟨cs, h1, h2, h3, h4⟩ := h
  refine ⟨cs, ownsRow_base h1 hb, h2, fun j xs hx => ?_, h4⟩
  obtain ⟨u, hu, ho⟩ := h3 j xs hx
  exact ⟨u, hu, ho.base hb⟩
set_option maxRecDepth 100000 in
theorem own_ne {w : World} {B B' n : Nat} {u v : Value} {xs : List Int} {cs : List Value} (h : OwnI w B u xs) (h' : w.ownsRow B' 28 1 v n cs) : ∀ k, u.ownBlock = some k → v.ownBlock ≠ some k := by
  intro k hk hv
  obtain ⟨_, h⟩ := h
  obtain ⟨_, h'⟩ := h'
  rcases h with ⟨rfl, _⟩ | ⟨g, cap, cur, rfl, _, hh, _⟩
  · cases hk
  · rcases h' with ⟨rfl, _⟩ | ⟨g', cap', cur', rfl, _, hh', _⟩
    · cases hv
    · simp only [Value.ownBlock, Option.some.injEq] at hk hv
      subst hk
      subst hv
      rw [hh] at hh'
      injection hh' with hh'
      injection hh' with _ hh' _
      exact absurd hh' (by decide)
set_option maxRecDepth 100000 in
theorem own_ne' {w : World} {B B' n : Nat} {u v : Value} {xs : List Int} {cs : List Value} (h : OwnI w B u xs) (h' : w.ownsRow B' 28 1 v n cs) : u.ownBlock = none ∨ u.ownBlock ≠ v.ownBlock := by
  cases hu : u.ownBlock with
  | none => exact .inl rfl
  | some k => exact .inr (fun e => own_ne h h' k hu e.symm)
set_option maxRecDepth 100000 in
theorem OwnI.form {w : World} {B : Nat} {u : Value} {xs : List Int} (h : OwnI w B u xs) : ∃ a n c, u = .slice a n c := by
  obtain ⟨a, c, rfl, _⟩ := h.val
  exact ⟨_, _, _, rfl⟩
set_option maxRecDepth 100000 in
theorem OwnI.slice {w : World} {B : Nat} {u : Value} {xs : List Int} (h : OwnI w B u xs) : u.oneCell' = true := by
  obtain ⟨a, c, rfl, _⟩ := h.val
  rfl

set_option maxRecDepth 100000 in
theorem OwnSS.wr {w : World} {B : Nat} {v : Value} {xss : List (List Int)} (h : OwnSS w B v xss) : WrSS w B v xss := by
  obtain ⟨cs, h1, h2, h3, h4⟩ := h
  have h0 := h1
  obtain ⟨_, h5⟩ := h1
  rcases h5 with ⟨rfl, h5⟩ | ⟨g, cap, cur, rfl, hg, hh, hc, hm, hs, ht⟩
  · have : xss = [] := List.length_eq_zero_iff.1 (by omega)
    subst this
    exact WrSS.nil _ _ _ _
  · rw [h2]
    rw [h2] at h0
    have hl : g < w.heap.size := (World.ownsRow.lt h0 g rfl).2
    have hrow : ∀ o, o < xss.length → ∃ u, cs[o]? = some u ∧ OwnI w B u (xss.getD o []) := fun o ho => by
      obtain ⟨xs, hx⟩ := at_of_lt ho
      obtain ⟨u, hu, hO⟩ := h3 o xs hx
      exact ⟨u, hu, by simpa [List.getD, hx] using hO⟩
    have hcs : ∀ o u, cs[o]? = some u → cs.getD o undef = u := fun o u hu => by simp [List.getD, hu]
    refine ⟨some ⟨g, 0, none⟩, cap, rfl, by omega, fun _ => ⟨g, fun o => cs.getD o undef, rfl, hg, ⟨hl, fun o => World.ownsRow.frozenAt h0 o, fun o ho => ?_⟩, fun o ho => ?_, fun o ho => ?_, fun o o' k ho ho' hne hk => ?_⟩⟩
    · rw [World.ownsRow.cellAt h0 o (by omega)]
      obtain ⟨u, hu, _⟩ := hrow o ho
      rw [hu, hcs o u hu]
    · obtain ⟨u, hu, hO⟩ := hrow o ho
      show OwnI w B (cs.getD o undef) _
      rw [hcs o u hu]; exact hO
    · obtain ⟨u, hu, hO⟩ := hrow o ho
      show (cs.getD o undef).ownBlock ≠ _
      rw [hcs o u hu]
      exact fun e => own_ne hO h0 g e rfl
    · obtain ⟨u, hu, _⟩ := hrow o ho
      obtain ⟨u', hu', _⟩ := hrow o' ho'
      show (cs.getD o' undef).ownBlock ≠ _
      rw [hcs o' u' hu']
      have hk' : (cs.getD o undef).ownBlock = some k := hk
      rw [hcs o u hu] at hk'
      exact h4 o o' u u' k hne hu hu' hk'

set_option maxRecDepth 100000 in
theorem wpList_appS {ops : Array Oper} {rest : List Oper} {o : Oper} {a : Act} {Q : Exit → Act → World → Prop} (W0 w0 w3 : World) (hgd : o.guard = none) (s x : Operand)
    (ho : o.op = .call { callee := .builtin .append, args := #[s, x], argTypes := #[50, 50] }) (v : Value) (xss : List (List Int)) (u : Value) (xs : List Int) (hs : a.eval s = v)
    (hown : OwnSS w0 W0.heap.size v xss) (hW0 : Ext W0 w0) (hw : Ext w0 w3) (hu : OwnI w3 w0.heap.size u xs)
    (hx : a.eval x = .slice (some ⟨w3.heap.size, 0, none⟩) 1 1) (hlen : xss.length ≤ 2000000)
    (h : ∀ v' w', OwnSS w' W0.heap.size v' (xss ++ [xs]) → Ext W0 w' → wpList Tryz.prog ops Q rest (a.put o.dst v') w') : wpList Tryz.prog ops Q (o :: rest) a (w3.alloc (.cells #[u] 28)) := by
  obtain ⟨i0, hi, hz0, hz1, hz2⟩ := info_parts info_row
  obtain ⟨cs, h1, h2, h3, h4⟩ := hown
  have h1a := ownsRow_ext h1 (hw.alloc (.cells #[u] 28))
  have hW3 : Ext W0 (w3.alloc (.cells #[u] 28)) := (hW0.trans hw).alloc _
  refine wpList_append_own _ hgd s x 50 ho W0.heap.size 28 i0 (.slice none 0 0) 1 24 Tryz.underlying50 hi hz0 hz1 hz2 rfl (by decide) v cs.length _ hs h1a ⟨w3.heap.size, 0, none⟩ 1 1 [u] hx rfl ?_ ?_ ?_ ?_ hW3.size ?_
  · intro j z hj
    match j, hj with
    | 0, hj => simp at hj; subst hj; simp [Addr.add]
  · intro z hz; simp at hz; subst hz; exact hu.slice
  · unfold maxLen; omega
  · omega
  · intro v' w' h5 h6 _
    have huw := hu.ext (Ext.new w3 (.cells #[u] 28))
    refine h v' w' ⟨cs ++ [u], by simpa using h5, by simp [h2], fun j ys hy => ?_, fun i j z z' k hne hz hz' hk => ?_⟩ (hW3.grown h6 (ownsRow_block h1a))
    · rcases Nat.lt_or_ge j xss.length with hlt | hge
      · rw [List.getElem?_append_left hlt] at hy
        obtain ⟨z, hz, hO⟩ := h3 j ys hy
        refine ⟨z, by rw [List.getElem?_append_left (by omega)]; exact hz, ?_⟩
        have hO' := hO.ext (hw.alloc (.cells #[u] 28))
        exact hO'.keepRow h6 (own_ne' hO' h1a)
      · rw [List.getElem?_append_right hge] at hy
        have hj : j - xss.length = 0 := by have := lt_of_at hy; simp at this; omega
        rw [hj] at hy
        simp at hy
        subst hy
        refine ⟨u, by rw [List.getElem?_append_right (by omega), h2, hj]; rfl, ?_⟩
        exact (huw.keepRow h6 (own_ne' huw h1a)).base hW0.size
    · have low : ∀ (i : Nat) (z : Value) (k : Nat), cs[i]? = some z → z.ownBlock = some k → k < w0.heap.size := fun i z k hz hk => by
        obtain ⟨ys, hy⟩ := at_of_lt (xs := xss) (k := i) (by have := lt_of_at hz; omega)
        obtain ⟨z', hz', hO⟩ := h3 i ys hy
        rw [hz] at hz'
        injection hz' with hz'
        subst hz'
        exact (World.ownsRow.lt hO k hk).2
      have new : ∀ k, u.ownBlock = some k → w0.heap.size ≤ k := fun k hk => (World.ownsRow.lt hu k hk).1
      rcases Nat.lt_or_ge i cs.length with hil | hil
      · rw [List.getElem?_append_left hil] at hz
        rcases Nat.lt_or_ge j cs.length with hjl | hjl
        · rw [List.getElem?_append_left hjl] at hz'
          exact h4 i j z z' k hne hz hz' hk
        · rw [List.getElem?_append_right hjl] at hz'
          have hj : j - cs.length = 0 := by have := lt_of_at hz'; simp at this; omega
          rw [hj] at hz'
          simp at hz'
          subst hz'
          intro e
          have := low i z k hz hk
          have := new k e
          omega
      · rw [List.getElem?_append_right hil] at hz
        have hi0 : i - cs.length = 0 := by have := lt_of_at hz; simp at this; omega
        rw [hi0] at hz
        simp at hz
        subst hz
        rcases Nat.lt_or_ge j cs.length with hjl | hjl
        · rw [List.getElem?_append_left hjl] at hz'
          intro e
          have := low j z' k hz' e
          have := new k hk
          omega
        · rw [List.getElem?_append_right hjl] at hz'
          have hj0 : j - cs.length = 0 := by have := lt_of_at hz'; simp at this; omega
          omega

set_option maxRecDepth 100000 in
/-- One integer appended inside a drawn region, to a list anywhere. -/
theorem oper_appB {o : Oper} {a : Act} {K : World → Act → Prop} (B : Nat) (w3 : World) (hgd : o.guard = none) (s x : Operand)
    (ho : o.op = .call { callee := .builtin .append, args := #[s, x], argTypes := #[28, 28] }) (v : Value) (xs : List Int) (y : Int) (gx : Nat) (hs : a.eval s = v) (hown : OwnI w3 B v xs) (hW : B ≤ w3.heap.size)
    (hx : a.eval x = .slice (some ⟨gx, 0, none⟩) 1 1) (hc : w3.cell? ⟨gx, 0, none⟩ = some (.int .i64 y)) (hlen : xs.length ≤ 2000000)
    (h : ∀ v' w', OwnI w' B v' (xs ++ [y]) → w3.grownBy w' v.ownBlock → K w' (a.put o.dst v')) : o.wp Tryz.prog a w3 (fun a' w' => K w' a') NoExit := by
  obtain ⟨i0, hi, hz0, hz1, hz2⟩ := info_parts info_int
  have h1 : wpList Tryz.prog #[] (fun e a w => e = .normal ∧ K w a) [o] a w3 := by
    refine wpList_append_own _ hgd s x 28 ho B 3 i0 (.int .i64 0) 1 8 Tryz.underlying28 hi hz0 hz1 hz2 rfl (by decide) v xs.length _ hs hown ⟨gx, 0, none⟩ 1 1 [.int .i64 y] hx rfl ?_ ?_ ?_ ?_ hW ?_
    · intro j u hj
      match j, hj with
      | 0, hj => simp at hj; subst hj; simpa [Addr.add] using hc
    · intro u hu; simp at hu; subst hu; rfl
    · unfold maxLen; omega
    · omega
    · intro v' w' h1 h2 _
      refine ⟨rfl, h v' w' ?_ h2⟩
      unfold OwnI
      simpa using h1
  unfold wpList at h1
  split at h1
  · rcases h1 with h1 | ⟨_, _, _, h1, _⟩
    · exact oper_no h1
    · cases h1
  · rename_i hw
    exact absurd (by simp [Region.wanted, hgd]) hw

set_option maxRecDepth 100000 in
theorem grown_ext {w w' w'' : World} {row : Option Nat} (h : w.grownBy w' row) (k : Ext w' w'') : w.grownBy w'' row :=
  ⟨k.os.trans h.os, k.tape.trans h.tape, k.output.trans h.output, Nat.le_trans h.size k.size, fun i hi hne => (Below.block k i (Nat.lt_of_lt_of_le hi h.size)).trans (h.block i hi hne)⟩

/-- A matrix whose row k is being filled by appends, its cells from H on. -/
structure MatK (w : World) (B H g n k : Nat) (us : Nat → Value) (rows : Nat → List Int) : Prop where
  mat : Mat w B g n us rows
  cur : OwnI w H (us k) (rows k)
  low : B ≤ H
  size : H ≤ w.heap.size
  gH : g < H
  oth : ∀ o b, o < n → o ≠ k → (us o).ownBlock = some b → b < H
set_option maxRecDepth 100000 in
theorem MatK.ext {w w' : World} {B H g n k : Nat} {us : Nat → Value} {rows : Nat → List Int} (h : MatK w B H g n k us rows) (hw : Ext w w') : MatK w' B H g n k us rows :=
  ⟨h.mat.ext hw, h.cur.ext hw, h.low, Nat.le_trans h.size hw.size, h.gH, h.oth⟩
set_option maxRecDepth 100000 in
/-- Row k, still empty, is begun. -/
theorem Mat.begin {w : World} {B g n k : Nat} {us : Nat → Value} {rows : Nat → List Int} (h : Mat w B g n us rows) (hu : us k = .slice none 0 0) (hr : rows k = []) : MatK w B w.heap.size g n k us rows :=
  ⟨h, by rw [hu, hr]; exact OwnI.nil _ _, Nat.le_trans h.base (Nat.le_of_lt h.outer.lt), Nat.le_refl _, h.outer.lt, fun o b ho _ hb => (World.ownsRow.lt (h.row o ho) b hb).2⟩
set_option maxRecDepth 100000 in
theorem MatK.app {w w' wz : World} {B H g n k : Nat} {us : Nat → Value} {rows : Nat → List Int} (h : MatK w B H g n k us rows) (hk : k < n) {v' : Value} {xs : List Int} (hv : OwnI w' H v' xs) (hg : w.grownBy w' (us k).ownBlock) (hz : Ext w' wz) :
    MatK (wz.setCell ⟨g, k, none⟩ v') B H g n k (fun o => if o = k then v' else us o) (fun o => if o = k then xs else rows o) := by
  have hgz := grown_ext hg hz
  have hvz := hv.ext hz
  have hnew : ∀ b, v'.ownBlock = some b → H ≤ b := fun b hb => (World.ownsRow.lt hv b hb).1
  have hold : ∀ b, (us k).ownBlock = some b → H ≤ b := fun b hb => (World.ownsRow.lt h.cur b hb).1
  have hgh := h.gH
  have far : ∀ b, H ≤ b → b ≠ g ∧ ∀ o, o < n → o ≠ k → (us o).ownBlock ≠ some b := fun b hb => ⟨by omega, fun o ho hne e => by have := h.oth o b ho hne e; omega⟩
  refine ⟨h.mat.put hk hgz (fun b hb => far b (hold b hb)) (hvz.base h.low) (fun b hb => far b (hnew b hb)), ?_, h.low, ?_, hgh, fun o b ho hne hb => ?_⟩
  · rw [if_pos rfl, if_pos rfl]
    exact hvz.keepRow (setCell_row wz g k v') (by
      cases hb : v'.ownBlock with
      | none => exact .inl rfl
      | some b => exact .inr (fun e => by have := hnew b hb; injection e with e; omega))
  · have h1 := h.size
    have h2 := hgz.size
    simp [World.setCell]; omega
  · rw [if_neg hne] at hb
    exact h.oth o b ho hne hb

end Go.Proofs.YtfmeklgdaabooaaGreatDoor
