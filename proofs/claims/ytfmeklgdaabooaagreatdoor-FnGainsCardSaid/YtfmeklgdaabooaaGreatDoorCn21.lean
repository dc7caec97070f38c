/- What FnTop says of a profile (plain law). Ballots that lead to a winner (plain law). Who has a better answer than his own vote (plain law). The best answer of a voter, and who gains by it (plain law). -/
import Derived.Test.YtfmeklgdaabooaaGreatDoorCn16
import Derived.Test.YtfmeklgdaabooaaGreatDoorCn18
import Derived.Test.YtfmeklgdaabooaaGreatDoorCn20
import Derived.Test.YtfmeklgdaabooaaGreatDoorCn5
import Derived.Test.YtfmeklgdaabooaaGreatDoorCn11
namespace Go.Proofs.YtfmeklgdaabooaaGreatDoor
open Go.RowKit

/-- The first of the greatest. -/
structure BestAt (n : Nat) (f : Nat → Int) (a : Nat) : Prop where
  lt : a < n
  ge : ∀ j, j < n → f j ≤ f a
  fst : ∀ j, j < a → f j < f a
set_option maxRecDepth 100000 in
theorem best_bestAt {n : Nat} (n1 : 1 ≤ n) (f : Nat → Int) : ∃ (a : Nat) (r : List Int), bestL (rowL n f) = (a : Int) :: r ∧ BestAt n f a := by
  obtain ⟨i, r, h1, h2, h3, h4⟩ := best_first (xs := rowL n f) (by rw [rowL_len]; exact n1)
  rw [rowL_len] at h3
  obtain ⟨_, e⟩ := rowL_val h2
  have hge : ∀ j, j < n → f j ≤ f i := fun j hj => by
    rw [← e]
    exact maxL_ge (List.mem_of_getElem? (rowL_at (f := f) hj))
  refine ⟨i, r, h1, h3, hge, fun j hj => ?_⟩
  have h5 := h4 j hj
  rw [rowL_at (show j < n by omega), e] at h5
  have h6 := hge j (by omega)
  have h7 : f j ≠ f i := fun e2 => h5 (by rw [e2])
  omega
set_option maxRecDepth 100000 in
theorem BestAt.uniq {n : Nat} {f : Nat → Int} {a b : Nat} (ha : BestAt n f a) (hb : BestAt n f b) : a = b := by
  rcases Nat.lt_trichotomy a b with h | h | h
  · have h1 := hb.fst a h
    have h2 := ha.ge b hb.lt
    omega
  · exact h
  · have h1 := ha.fst b h
    have h2 := hb.ge a ha.lt
    omega
/-- The scores by which a rule of scores goes. -/
noncomputable def scR (rule : Int) (n : Nat) (vs : List Vt) : Nat → Int :=
  if rule = 1 then scoV pluW vs else if rule = 2 then scoV (borW n) vs else if rule = 3 then scoV (vetW n) vs else if rule = 4 then copeV n vs else fun i => minTo vs (allV vs) i n
set_option maxRecDepth 100000 in
theorem winL_scR {rule : Int} {n : Nat} {vs : List Vt} (h0 : profOk n vs = true) (r1 : 1 ≤ rule) (r5 : rule ≤ 5) : winL rule n vs = bestL (rowL n (scR rule n vs)) := by
  have hr : rule = 1 ∨ rule = 2 ∨ rule = 3 ∨ rule = 4 ∨ rule = 5 := by omega
  rcases hr with rfl | rfl | rfl | rfl | rfl
  · rfl
  · rfl
  · rfl
  · show bestL (copeO n vs) = bestL (rowL n (copeV n vs))
    unfold copeO
    rw [if_pos h0, Int.toNat_natCast]
  · show bestL (maxiO n vs) = bestL (rowL n (fun i => minTo vs (allV vs) i n))
    unfold maxiO
    rw [if_pos h0, Int.toNat_natCast]
set_option maxRecDepth 100000 in
theorem winB_scR {rule : Int} {n : Nat} {vs : List Vt} (h0 : profOk n vs = true) (r1 : 1 ≤ rule) (r5 : rule ≤ 5) : ∃ a : Nat, winB rule n vs = a ∧ BestAt n (scR rule n vs) a := by
  have hsz := prof_size h0
  obtain ⟨a, r, e, hb⟩ := best_bestAt (n := n) (by omega) (scR rule n vs)
  exact ⟨a, by unfold winB; rw [winO_eq h0, winL_scR h0 r1 r5, e]; rfl, hb⟩
set_option maxRecDepth 100000 in
theorem winB_at {rule : Int} {n : Nat} {vs : List Vt} (h0 : profOk n vs = true) (r1 : 1 ≤ rule) (r5 : rule ≤ 5) {a : Nat} (h : BestAt n (scR rule n vs) a) : winB rule n vs = a := by
  obtain ⟨b, e, hb⟩ := winB_scR h0 r1 r5
  rw [e, hb.uniq h]
/-- Weights of the first three rules. -/
noncomputable def wgR (rule : Int) (n : Nat) : Nat → Int := if rule = 1 then pluW else if rule = 2 then borW n else vetW n
set_option maxRecDepth 100000 in
theorem scR_wg {rule : Int} (n : Nat) (vs : List Vt) (r1 : 1 ≤ rule) (r3 : rule ≤ 3) : scR rule n vs = scoV (wgR rule n) vs := by
  have hr : rule = 1 ∨ rule = 2 ∨ rule = 3 := by omega
  rcases hr with rfl | rfl | rfl <;> rfl
set_option maxRecDepth 100000 in
theorem wgG {rule : Int} {n : Nat} (n5 : n ≤ 5) : GoodW (wgR rule n) := by
  unfold wgR
  split
  · exact pluG
  · split
    · exact borG n5
    · exact vetG n
set_option maxRecDepth 100000 in
theorem wg_le {f : Nat → Int} (hf : GoodW f) : ∀ {i j : Nat}, i ≤ j → f j ≤ f i
  | i, 0, h => by
    have : i = 0 := by omega
    subst this; exact Int.le_refl _
  | i, j + 1, h => by
    by_cases e : i = j + 1
    · subst e; exact Int.le_refl _
    · have h1 := wg_le hf (i := i) (j := j) (by omega)
      have h2 := hf.2 j
      omega

set_option maxRecDepth 100000 in
/-- Sums over votes when one of them is another one. -/
theorem set_sum (g : Vt → Int) : ∀ {vs : List Vt} {k : Nat} {x : Vt} (y : Vt), vs[k]? = some x → ((vs.set k y).map g).sum = (vs.map g).sum + g y - g x
  | [], _, _, _, h => by simp at h
  | v :: vs, 0, x, y, h => by
    simp at h
    subst h
    rw [List.set_cons_zero, List.map_cons, List.map_cons, List.sum_cons, List.sum_cons]
    omega
  | v :: vs, k + 1, x, y, h => by
    simp only [List.getElem?_cons_succ] at h
    have ih := set_sum g y h
    rw [List.set_cons_succ, List.map_cons, List.map_cons, List.sum_cons, List.sum_cons, ih]
    omega
set_option maxRecDepth 100000 in
theorem erase_sum (g : Vt → Int) : ∀ {vs : List Vt} {k : Nat} {x : Vt}, vs[k]? = some x → ((vs.eraseIdx k).map g).sum = (vs.map g).sum - g x
  | [], _, _, h => by simp at h
  | v :: vs, 0, x, h => by
    simp at h
    subst h
    rw [List.eraseIdx_cons_zero, List.map_cons, List.sum_cons]
    omega
  | v :: vs, k + 1, x, h => by
    simp only [List.getElem?_cons_succ] at h
    have ih := erase_sum g h
    rw [List.eraseIdx_cons_succ, List.map_cons, List.map_cons, List.sum_cons, List.sum_cons, ih]
    omega
set_option maxRecDepth 100000 in
theorem sumV_sum (p : List Int → Bool) : ∀ vs : List Vt, sumV p vs = (vs.map (fun x => if p x.1 then x.2 else 0)).sum
  | [] => by simp [sumV]
  | x :: vs => by rw [sumV_cons, sumV_sum p vs, List.map_cons, List.sum_cons]
set_option maxRecDepth 100000 in
theorem vtOk_iff {n : Int} {x : Vt} : vtOk n x = true ↔ rkOk n x.1 = true ∧ 1 ≤ x.2 ∧ x.2 ≤ 1000 := by
  unfold vtOk
  rw [Bool.and_eq_true, inR_iff]
set_option maxRecDepth 100000 in
theorem prof_iff {sz : Int} {vs : List Vt} : profOk sz vs = true ↔ (1 ≤ sz ∧ sz ≤ 5) ∧ vs.length ≤ 24 ∧ ∀ x ∈ vs, rkOk sz x.1 = true ∧ 1 ≤ x.2 ∧ x.2 ≤ 1000 := by
  unfold profOk
  simp only [Bool.and_eq_true, inR_iff, decide_eq_true_eq, List.all_eq_true, vtOk_iff]
set_option maxRecDepth 100000 in
theorem prof_set1 {sz : Int} {vs : List Vt} (h : profOk sz vs = true) {k : Nat} {y : Vt} (hy : rkOk sz y.1 = true ∧ 1 ≤ y.2 ∧ y.2 ≤ 1000) : profOk sz (vs.set k y) = true := by
  rw [prof_iff] at h ⊢
  refine ⟨h.1, by rw [List.length_set]; exact h.2.1, fun x hx => ?_⟩
  rcases List.mem_or_eq_of_mem_set hx with hx | rfl
  · exact h.2.2 x hx
  · exact hy
set_option maxRecDepth 100000 in
theorem prof_sub {sz : Int} {vs us : List Vt} (h : profOk sz vs = true) (hs : us.Sublist vs) : profOk sz us = true := by
  rw [prof_iff] at h ⊢
  exact ⟨h.1, Nat.le_trans hs.length_le h.2.1, fun x hx => h.2.2 x (hs.subset hx)⟩
set_option maxRecDepth 100000 in
theorem place_of {n : Nat} {r : List Int} (h : rkOk n r = true) {a k : Nat} (ha : a < n) (hk : r[k]? = some (a : Int)) : placeI r a = k := by
  obtain ⟨i, _, ei, _, hu⟩ := place_at h ha
  rw [ei, hu k hk]

/-- A candidate goes up one place. -/
structure RaiF (n : Nat) (r r' : List Int) (w b i : Nat) : Prop where
  i1 : 1 ≤ i
  bn : b < n
  bw : b ≠ w
  pw : placeI r w = i
  pb : placeI r b = ((i - 1 : Nat) : Int)
  pw' : placeI r' w = ((i - 1 : Nat) : Int)
  pb' : placeI r' b = i
  oth : ∀ j : Nat, j < n → j ≠ w → j ≠ b → placeI r' j = placeI r j ∧ placeI r j ≠ i ∧ placeI r j ≠ ((i - 1 : Nat) : Int)
  pos : ∀ j : Nat, j < n → 0 ≤ placeI r j
  ok : rkOk n r' = true
set_option maxRecDepth 100000 in
theorem rai_f {n : Nat} {r : List Int} (h : rkOk n r = true) {w : Nat} (hw : w < n) (h1 : 1 ≤ placeI r w) : ∃ b, RaiF n r (raiseL r (placeI r w).toNat) w b (placeI r w).toNat := by
  obtain ⟨i, hi, ei, hiw, _⟩ := place_at h hw
  have hl := (rk_len h).1
  rw [ei, Int.toNat_natCast]
  rw [ei] at h1
  have i1 : 1 ≤ i := by omega
  obtain ⟨y, hy⟩ := at_of_lt (xs := r) (k := i - 1) (by omega)
  have hm := rk_mem h (List.mem_of_getElem? hy)
  obtain ⟨b, rfl⟩ : ∃ b : Nat, y = b := ⟨y.toNat, by omega⟩
  have hb : b < n := by omega
  have hok := raise_ok h (i := i) (by omega)
  have hgd : ∀ {j : Nat} {z : Int}, r[j]? = some z → r.getD j 0 = z := fun {j z} hz => by simp [List.getD, hz]
  have hat : ∀ j, j < n → (raiseL r i)[j]? = some (if j = i then (b : Int) else if j = i - 1 then (w : Int) else r.getD j 0) := fun j hj => by
    have h2 := raise_at i1 (show i < r.length by omega) j (by omega)
    rw [hgd hy, hgd hiw] at h2
    rw [← h2, List.getD_eq_getElem?_getD]
    have : j < (raiseL r i).length := by rw [raise_len]; omega
    rw [List.getElem?_eq_getElem this]; rfl
  have hbw : b ≠ w := fun e => by
    subst e
    have := nodup_inj (rk_nodup h) hiw hy
    omega
  refine ⟨b, i1, hb, hbw, ei, place_of h hb hy, ?_, ?_, fun j hj hjw hjb => ?_, fun j hj => ?_, hok⟩
  · refine place_of hok hw ?_
    rw [hat (i - 1) (by omega), if_neg (by omega), if_pos rfl]
  · refine place_of hok hb ?_
    rw [hat i hi, if_pos rfl]
  · obtain ⟨p, hp, ep, hpj, _⟩ := place_at h hj
    have n1 : p ≠ i := fun e => by
      rw [e, hiw] at hpj
      injection hpj with hpj
      omega
    have n2 : p ≠ i - 1 := fun e => by
      rw [e, hy] at hpj
      injection hpj with hpj
      omega
    rw [ep]
    refine ⟨place_of hok hj ?_, by omega, by omega⟩
    rw [hat p hp, if_neg n1, if_neg n2, hgd hpj]
  · obtain ⟨p, _, ep, _, _⟩ := place_at h hj
    omega
set_option maxRecDepth 100000 in
theorem pref_places {r : List Int} {x y : Int} (hx : 0 ≤ placeI r x) (hy : 0 ≤ placeI r y) : prefB r x y = decide (placeI r x < placeI r y) := by
  unfold prefB
  rw [decide_eq_true hx, decide_eq_true hy]; rfl
set_option maxRecDepth 100000 in
theorem RaiF.pos' {n : Nat} {r r' : List Int} {w b i : Nat} (h : RaiF n r r' w b i) {j : Nat} (hj : j < n) : 0 ≤ placeI r' j := by
  by_cases e1 : j = w
  · rw [e1, h.pw']; omega
  · by_cases e2 : j = b
    · rw [e2, h.pb']; omega
    · rw [(h.oth j hj e1 e2).1]; exact h.pos j hj
set_option maxRecDepth 100000 in
/-- Only the raised one gains. -/
theorem RaiF.pref {n : Nat} {r r' : List Int} {w b i : Nat} (h : RaiF n r r' w b i) : (∀ y, y < n → prefB r w y = true → prefB r' w y = true) ∧ (∀ y, y < n → prefB r' y w = true → prefB r y w = true) ∧ (∀ x y, x < n → y < n → x ≠ w → y ≠ w → prefB r' x y = prefB r x y) := by
  have i1 := h.i1
  have pw := h.pw
  have pb := h.pb
  have pw' := h.pw'
  have pb' := h.pb'
  refine ⟨fun y hy hp => ?_, fun y hy hp => ?_, fun x y hx hy hxw hyw => ?_⟩
  · have p1 := h.pos y hy
    have p2 := h.pos' hy
    rw [pref_places (by omega) p1, decide_eq_true_eq] at hp
    rw [pref_places (by omega) p2, decide_eq_true_eq]
    by_cases e1 : y = w
    · rw [e1] at hp; omega
    · by_cases e2 : y = b
      · rw [e2] at hp ⊢; omega
      · have := h.oth y hy e1 e2
        omega
  · have p1 := h.pos y hy
    have p2 := h.pos' hy
    rw [pref_places p2 (by omega), decide_eq_true_eq] at hp
    rw [pref_places p1 (by omega), decide_eq_true_eq]
    by_cases e1 : y = w
    · rw [e1] at hp; omega
    · by_cases e2 : y = b
      · rw [e2] at hp ⊢; omega
      · have := h.oth y hy e1 e2
        omega
  · rw [pref_places (h.pos' hx) (h.pos' hy), pref_places (h.pos x hx) (h.pos y hy), decide_eq_decide]
    by_cases e1 : x = b
    · by_cases e2 : y = b
      · rw [e1, e2]; omega
      · have := h.oth y hy hyw e2
        rw [e1]; omega
    · have h1 := h.oth x hx hxw e1
      by_cases e2 : y = b
      · rw [e2]; omega
      · have := h.oth y hy hyw e2
        omega

/-- A profile in which only w gains. -/
structure Imp (n : Nat) (vs us : List Vt) (w : Nat) : Prop where
  win : ∀ y, y < n → pairV vs w y ≤ pairV us w y
  los : ∀ y, y < n → pairV us y w ≤ pairV vs y w
  oth : ∀ x y, x < n → y < n → x ≠ w → y ≠ w → pairV us x y = pairV vs x y
  all : allV us = allV vs
  sw : ∀ f, GoodW f → scoV f vs w ≤ scoV f us w
  so : ∀ f, GoodW f → ∀ j, j < n → j ≠ w → scoV f us j ≤ scoV f vs j
set_option maxRecDepth 100000 in
theorem imp_of {n : Nat} {vs : List Vt} {k : Nat} {x : Vt} (hx : vs[k]? = some x) (hc : 1 ≤ x.2) {r' : List Int} {w b i : Nat} (_ : w < n) (h : RaiF n x.1 r' w b i) : Imp n vs (vs.set k (r', x.2)) w := by
  have hp := h.pref
  have hs : ∀ p : List Int → Bool, sumV p (vs.set k (r', x.2)) = sumV p vs + (if p r' then x.2 else 0) - (if p x.1 then x.2 else 0) := fun p => by
    rw [sumV_sum, sumV_sum, set_sum _ _ hx]
  have hsc : ∀ (f : Nat → Int) (j : Nat), scoV f (vs.set k (r', x.2)) j = scoV f vs j + x.2 * f (placeI r' j).toNat - x.2 * f (placeI x.1 j).toNat := fun f j => by
    unfold scoV
    rw [set_sum (fun x => x.2 * f (placeI x.1 j).toNat) _ hx]
  have i1 := h.i1
  refine ⟨fun y hy => ?_, fun y hy => ?_, fun a c ha hc2 haw hcw => ?_, ?_, fun f hf => ?_, fun f hf j hj hjw => ?_⟩
  · unfold pairV
    rw [hs]
    have := hp.1 y hy
    cases h1 : prefB x.1 w y
    · cases prefB r' w y <;> simp <;> omega
    · rw [this h1]; simp
  · unfold pairV
    rw [hs]
    have := hp.2.1 y hy
    cases h1 : prefB r' y w
    · cases prefB x.1 y w <;> simp <;> omega
    · rw [this h1]; simp
  · unfold pairV
    rw [hs, hp.2.2 a c ha hc2 haw hcw]
    omega
  · unfold allV
    rw [hs]
    simp
  · rw [hsc, h.pw, h.pw', Int.toNat_natCast, Int.toNat_natCast]
    have h1 := wg_le hf (i := i - 1) (j := i) (by omega)
    have h2 : x.2 * f i ≤ x.2 * f (i - 1) := Int.mul_le_mul_of_nonneg_left h1 (by omega)
    omega
  · rw [hsc]
    by_cases e : j = b
    · rw [e, h.pb, h.pb', Int.toNat_natCast, Int.toNat_natCast]
      have h1 := wg_le hf (i := i - 1) (j := i) (by omega)
      have h2 : x.2 * f i ≤ x.2 * f (i - 1) := Int.mul_le_mul_of_nonneg_left h1 (by omega)
      omega
    · rw [(h.oth j hj hjw e).1]
      omega
set_option maxRecDepth 100000 in
theorem cntN_mono {n : Nat} {p q : Nat → Bool} (h : ∀ j, j < n → p j = true → q j = true) : cntN n p ≤ cntN n q := by
  induction n with
  | zero => simp [cntN]
  | succ n ih =>
    have h1 := ih (fun j hj => h j (by omega))
    have h2 := h n (by omega)
    rw [cntN_succ, cntN_succ]
    cases hp : p n
    · cases q n <;> simp <;> omega
    · rw [h2 hp]; simp; omega
set_option maxRecDepth 100000 in
theorem Imp.bw {n : Nat} {vs us : List Vt} {w : Nat} (h : Imp n vs us w) {y : Nat} (hy : y < n) : (bt vs w y = true → bt us w y = true) ∧ (bt us y w = true → bt vs y w = true) := by
  have h1 := h.win y hy
  have h2 := h.los y hy
  unfold bt beatsV
  rw [decide_eq_true_eq, decide_eq_true_eq, decide_eq_true_eq, decide_eq_true_eq]
  omega
set_option maxRecDepth 100000 in
theorem Imp.bo {n : Nat} {vs us : List Vt} {w : Nat} (h : Imp n vs us w) {x y : Nat} (hx : x < n) (hy : y < n) (hxw : x ≠ w) (hyw : y ≠ w) : bt us x y = bt vs x y := by
  unfold bt beatsV
  rw [h.oth x y hx hy hxw hyw, h.oth y x hy hx hyw hxw]
set_option maxRecDepth 100000 in
/-- The scores of the first five rules follow. -/
theorem Imp.sc {n : Nat} {vs us : List Vt} {w : Nat} (h : Imp n vs us w) (hw : w < n) (n5 : n ≤ 5) {rule : Int} (r1 : 1 ≤ rule) (r5 : rule ≤ 5) : scR rule n vs w ≤ scR rule n us w ∧ ∀ j, j < n → j ≠ w → scR rule n us j ≤ scR rule n vs j := by
  by_cases h3 : rule ≤ 3
  · rw [scR_wg n vs r1 h3, scR_wg n us r1 h3]
    exact ⟨h.sw _ (wgG n5), h.so _ (wgG n5)⟩
  · have hr : rule = 4 ∨ rule = 5 := by omega
    rcases hr with rfl | rfl
    · show copeV n vs w ≤ copeV n us w ∧ ∀ j, j < n → j ≠ w → copeV n us j ≤ copeV n vs j
      unfold copeV
      refine ⟨?_, fun j hj hjw => ?_⟩
      · have h1 := cntN_mono (n := n) (p := bt vs w) (q := bt us w) (fun y hy => (h.bw hy).1)
        have h2 := cntN_mono (n := n) (p := fun y => bt us y w) (q := fun y => bt vs y w) (fun y hy => (h.bw hy).2)
        omega
      · have h1 := cntN_mono (n := n) (p := bt us j) (q := bt vs j) (fun y hy hb => by
          by_cases e : y = w
          · subst e; exact (h.bw hj).2 hb
          · rw [h.bo hj hy hjw e] at hb; exact hb)
        have h2 := cntN_mono (n := n) (p := fun y => bt vs y j) (q := fun y => bt us y j) (fun y hy hb => by
          by_cases e : y = w
          · subst e; exact (h.bw hj).1 hb
          · show bt us y j = true
            rw [h.bo hy hj e hjw]; exact hb)
        omega
    · show minTo vs (allV vs) w n ≤ minTo us (allV us) w n ∧ ∀ j, j < n → j ≠ w → minTo us (allV us) j n ≤ minTo vs (allV vs) j n
      rw [h.all]
      refine ⟨?_, fun j hj hjw => ?_⟩
      · have : ∀ m, m ≤ n → minTo vs (allV vs) w m ≤ minTo us (allV vs) w m := by
          intro m
          induction m with
          | zero => intro _; exact Int.le_refl _
          | succ m ih =>
            intro hm
            have h1 := ih (by omega)
            have h2 := h.win m (by omega)
            unfold minTo
            split
            · exact h1
            · omega
        exact this n (Nat.le_refl _)
      · have : ∀ m, m ≤ n → minTo us (allV vs) j m ≤ minTo vs (allV vs) j m := by
          intro m
          induction m with
          | zero => intro _; exact Int.le_refl _
          | succ m ih =>
            intro hm
            have h1 := ih (by omega)
            have h2 : pairV us j m ≤ pairV vs j m := by
              by_cases e : m = w
              · rw [e]; exact h.los j hj
              · exact Int.le_of_eq (h.oth j m hj (by omega) hjw e)
            unfold minTo
            split
            · exact h1
            · omega
        exact this n (Nat.le_refl _)
set_option maxRecDepth 100000 in
theorem firstN_no {n : Nat} {q : Nat → Bool} (h : ∀ j, j < n → q j = false) : firstN n q = -1 := firstN_none h
set_option maxRecDepth 100000 in
/-- Support does no harm. -/
theorem mon_no {n : Nat} {vs : List Vt} (h0 : profOk n vs = true) {rule : Int} (r1 : 1 ≤ rule) (r5 : rule ≤ 5) : monO rule n vs = -1 := by
  obtain ⟨w, e, hb⟩ := winB_scR (rule := rule) h0 r1 r5
  have hS := prof_small h0
  have hsz := prof_size h0
  unfold monO
  rw [e, if_neg (by omega)]
  refine firstN_no (fun k hk => ?_)
  obtain ⟨x, hx⟩ := at_of_lt hk
  have hgd : vs.getD k ([], 0) = x := by simp [List.getD, hx]
  have hxo := hS.2 x (List.mem_of_getElem? hx)
  unfold monQ
  rw [hgd]
  by_cases hp : 1 ≤ placeI x.1 w
  · obtain ⟨b, hR⟩ := rai_f hxo.1 hb.lt hp
    have hI := imp_of hx hxo.2.1 hb.lt hR
    have h0' : profOk n (vs.set k (raiseL x.1 (placeI x.1 w).toNat, x.2)) = true := prof_set1 h0 ⟨hR.ok, hxo.2⟩
    have hsc := hI.sc hb.lt (by omega) r1 r5
    have : BestAt n (scR rule n (vs.set k (raiseL x.1 (placeI x.1 w).toNat, x.2))) w := ⟨hb.lt, fun j hj => by
      by_cases e2 : j = w
      · rw [e2]; exact Int.le_refl _
      · have h1 := hsc.2 j hj e2
        have h2 := hb.ge j hj
        omega, fun j hj => by
      have h1 := hsc.2 j (by have := hb.lt; omega) (by omega)
      have h2 := hb.fst j hj
      omega⟩
    rw [winB_at h0' r1 r5 this]
    simp
  · rw [decide_eq_false hp]; rfl
set_option maxRecDepth 100000 in
/-- To stay at home never helps. -/
theorem abs_no {n : Nat} {vs : List Vt} (h0 : profOk n vs = true) {rule : Int} (r1 : 1 ≤ rule) (r3 : rule ≤ 3) : absO rule n vs = -1 := by
  obtain ⟨w, e, hb⟩ := winB_scR (rule := rule) h0 r1 (by omega)
  have hS := prof_small h0
  have hsz := prof_size h0
  unfold absO
  rw [e, if_neg (by omega)]
  refine firstN_no (fun k hk => ?_)
  obtain ⟨x, hx⟩ := at_of_lt hk
  have hgd : vs.getD k ([], 0) = x := by simp [List.getD, hx]
  have hxo := hS.2 x (List.mem_of_getElem? hx)
  unfold absQ
  rw [hgd]
  have h0' : profOk n (vs.eraseIdx k) = true := prof_sub h0 (List.eraseIdx_sublist vs k)
  obtain ⟨w', e', hb'⟩ := winB_scR (rule := rule) h0' r1 (by omega)
  rw [e']
  cases hp : prefB x.1 w' w
  · rfl
  · exfalso
    rw [scR_wg n _ r1 r3] at hb hb'
    obtain ⟨i, _, ei, _, _⟩ := place_at hxo.1 hb.lt
    obtain ⟨i', _, ei', _, _⟩ := place_at hxo.1 hb'.lt
    rw [pref_places (by omega) (by omega), ei, ei', decide_eq_true_eq] at hp
    have h1 := wg_le (wgG (rule := rule) (n := n) (by omega)) (i := i') (j := i) (by omega)
    have h2 : x.2 * wgR rule n i ≤ x.2 * wgR rule n i' := Int.mul_le_mul_of_nonneg_left h1 (by omega)
    have hsc : ∀ j, scoV (wgR rule n) (vs.eraseIdx k) j = scoV (wgR rule n) vs j - x.2 * wgR rule n (placeI x.1 j).toNat := fun j => by
      unfold scoV
      rw [erase_sum (fun x => x.2 * wgR rule n (placeI x.1 j).toNat) hx]
    have s1 := hsc w
    have s2 := hsc w'
    rw [ei, Int.toNat_natCast] at s1
    rw [ei', Int.toNat_natCast] at s2
    have g1 := hb.ge w' hb'.lt
    have g2 := hb'.ge w hb.lt
    rcases Nat.lt_trichotomy w w' with hlt | hlt | hlt
    · have := hb'.fst w hlt
      omega
    · rw [hlt] at ei; omega
    · have := hb.fst w' hlt
      omega
set_option maxRecDepth 100000 in
/-- Two parts with the same winner have it together, too. -/
theorem spl_no {n : Nat} {vs : List Vt} (h0 : profOk n vs = true) {rule : Int} (r1 : 1 ≤ rule) (r3 : rule ≤ 3) (k : Int) : splO rule n vs k = false := by
  obtain ⟨w, e, hb⟩ := winB_scR (rule := rule) h0 r1 (by omega)
  obtain ⟨w1, e1, hb1⟩ := winB_scR (rule := rule) (prof_sub h0 (List.take_sublist k.toNat vs)) r1 (by omega)
  obtain ⟨w2, e2, hb2⟩ := winB_scR (rule := rule) (prof_sub h0 (List.drop_sublist k.toNat vs)) r1 (by omega)
  unfold splO
  rw [e, e1, e2]
  by_cases h12 : w1 = w2
  · subst h12
    have : w1 = w := by
      refine BestAt.uniq (n := n) (f := scR rule n vs) ?_ hb
      rw [scR_wg n _ r1 r3] at hb1 hb2 ⊢
      have hsc : ∀ j, scoV (wgR rule n) vs j = scoV (wgR rule n) (vs.take k.toNat) j + scoV (wgR rule n) (vs.drop k.toNat) j := fun j => by
        unfold scoV
        rw [← List.sum_append, ← List.map_append, List.take_append_drop]
      refine ⟨hb1.lt, fun j hj => ?_, fun j hj => ?_⟩
      · have a1 := hb1.ge j hj
        have a2 := hb2.ge j hj
        rw [hsc j, hsc w1]
        omega
      · have a1 := hb1.fst j hj
        have a2 := hb2.fst j hj
        rw [hsc j, hsc w1]
        omega
    subst this
    simp
  · have : ((w1 : Int) == (w2 : Int)) = false := by rw [beq_eq_false_iff_ne]; omega
    rw [this]
    simp
set_option maxRecDepth 100000 in
/-- The one that beats all others wins by six rules. -/
theorem con_win {n : Nat} {vs : List Vt} (h0 : profOk n vs = true) {w : Nat} (hw : w < n) (hb : ∀ j, j < n → j ≠ w → bt vs w j = true) {rule : Int} (hr : rule = 4 ∨ rule = 5 ∨ rule = 9 ∨ rule = 11 ∨ rule = 12 ∨ rule = 13) : winB rule n vs = w := by
  have hS := prof_small h0
  have hsz := prof_size h0
  obtain ⟨s, hT⟩ := top_f h0
  have ht := hT.win (by omega) hw hb
  have hlt : ∀ j, j < n → j ≠ w → pairV vs j w < pairV vs w j := fun j hj hne => by
    have := hb j hj hne
    unfold bt beatsV at this
    simpa using this
  unfold winB
  rw [winO_eq h0]
  rcases hr with rfl | rfl | rfl | rfl | rfl | rfl
  · rw [winL_scR h0 (by omega) (by omega)]
    show (bestL (rowL n (copeV n vs))).headD (-1) = w
    rw [best_sole hw (fun j hj hne => ?_)]
    · rfl
    · rw [cope_win hw hb]
      have h1 : cntN n (bt vs j) ≤ n - 1 := by
        by_cases h2 : cntN n (bt vs j) = n
        · have := allN_at (cntN_all.1 h2) hj
          rw [bt_self] at this
          cases this
        · have := cntN_le n (bt vs j)
          omega
      have h2 : 1 ≤ cntN n (fun y => bt vs y j) := by
        by_cases h3 : cntN n (fun y => bt vs y j) = 0
        · have := allN_at (cntN_none.1 h3) hw
          rw [hb j hj hne] at this
          cases this
        · omega
      unfold copeV
      omega
  · rw [winL_scR h0 (by omega) (by omega)]
    show (bestL (rowL n (fun i => minTo vs (allV vs) i n))).headD (-1) = w
    rw [best_sole hw (fun j hj hne => ?_)]
    · rfl
    · have h1 : ∀ m, w < m → m ≤ n → minTo vs (allV vs) j m ≤ pairV vs j w := by
        intro m
        induction m with
        | zero => intro h; omega
        | succ m ih =>
          intro h hm
          unfold minTo
          by_cases e : j = m
          · rw [if_pos e]
            exact ih (by omega) (by omega)
          · rw [if_neg e]
            by_cases e2 : w = m
            · rw [e2]; omega
            · have := ih (by omega) (by omega)
              omega
      have h2 := h1 n hw (Nat.le_refl _)
      have h3 := hlt j hj hne
      have hV := pair_tot hw hj (fun e => hne e.symm) hS
      have h4 : ∀ m, m ≤ n → allV vs < 2 * minTo vs (allV vs) w m := by
        intro m
        induction m with
        | zero =>
          intro _
          have := (sumV_bd' (p := fun r => prefB r (j : Int) (w : Int)) hS).1
          unfold minTo
          unfold pairV at h3 hV
          omega
        | succ m ih =>
          intro hm
          have := ih (by omega)
          unfold minTo
          by_cases e : w = m
          · rw [if_pos e]; exact this
          · rw [if_neg e]
            have a1 := hlt m (by omega) (fun h => e h.symm)
            have a2 := pair_tot hw (show m < n by omega) e hS
            omega
      have h5 := h4 n (Nat.le_refl _)
      show minTo vs (allV vs) j n < minTo vs (allV vs) w n
      omega
  · show (([lastI (elimO n vs (worP vs))] : List Int)).headD (-1) = w
    rw [elimO_eq h0, win_bald hS hw hb]; rfl
  · show (schO n vs).headD (-1) = w
    cases h : schO n vs with
    | nil => exact absurd h (sch_ne h0)
    | cons x r =>
      have := sch_top h0 (x := x) (by rw [h]; simp)
      rw [ht, List.mem_singleton] at this
      rw [this]; rfl
  · show ((prkO n vs).take 1).headD (-1) = w
    obtain ⟨x, hx, hm⟩ := prk_first h0
    rw [ht, List.mem_singleton] at hm
    cases h : prkO n vs with
    | nil => rw [h] at hx; simp at hx
    | cons y r =>
      rw [h] at hx
      simp at hx
      rw [hx, hm]; rfl
  · show ((kemO n vs).take 1).headD (-1) = w
    obtain ⟨x, hx, hm⟩ := kem_first h0
    rw [ht, List.mem_singleton] at hm
    cases h : kemO n vs with
    | nil => rw [h] at hx; simp at hx
    | cons y r =>
      rw [h] at hx
      simp at hx
      rw [hx, hm]; rfl
set_option maxRecDepth 100000 in
theorem miss_self (x : Int) : missB x x = false := by unfold missB; simp
set_option maxRecDepth 100000 in
theorem miss_neg (x : Int) : missB x (-1) = false := by unfold missB; simp
set_option maxRecDepth 100000 in
theorem misc_no {n : Nat} {vs : List Vt} (h0 : profOk n vs = true) {rule : Int} (hr : rule = 4 ∨ rule = 5 ∨ rule = 9 ∨ rule = 11 ∨ rule = 12 ∨ rule = 13) : miscO rule n vs = false := by
  unfold miscO
  rcases win_cases h0 with ⟨w, hw, e, hb⟩ | ⟨e, _⟩
  · rw [e, con_win h0 hw hb hr]; exact miss_self _
  · rw [e]; exact miss_neg _
set_option maxRecDepth 100000 in
theorem mism_no {n : Nat} {vs : List Vt} (h0 : profOk n vs = true) {rule : Int} (hr : rule = 1 ∨ rule = 6 ∨ rule = 7 ∨ rule = 10 ∨ rule = 4 ∨ rule = 13) : mismO rule n vs = false := by
  have hS := prof_small h0
  unfold mismO
  rcases maj_cases h0 with ⟨a, ha, e, hm⟩ | e
  · have hF := maj_f h0 ha hm
    rw [e]
    have hw : winB rule n vs = a := by
      rcases hr with rfl | rfl | rfl | rfl | rfl | rfl
      · unfold winB
        rw [winO_eq h0]
        show (bestL (rowL n (scoV pluW vs))).headD (-1) = a
        rw [best_sole ha (fun j hj hne => ?_)]
        · rfl
        · rw [fst_scoV hS hj, fst_scoV hS ha]
          have := fst_all hS ha hj hne
          omega
      · unfold winB
        rw [winO_eq h0]
        exact hF.run
      · unfold winB
        rw [winO_eq h0]
        exact hF.inst
      · unfold winB
        rw [winO_eq h0]
        exact hF.buk
      · exact con_win h0 ha (maj_beats hS ha hm) (by omega)
      · exact con_win h0 ha (maj_beats hS ha hm) (by omega)
    rw [hw]; exact miss_self _
  · rw [e]; exact miss_neg _
set_option maxRecDepth 100000 in
/-- Nobody alone wins both ways round by Borda. -/
theorem rev_no {n : Nat} {vs : List Vt} (h0 : profOk n vs = true) : revO 2 n vs = false := by
  have hS := prof_small h0
  have hsz := prof_size h0
  unfold revO
  by_cases hn : 2 ≤ n
  · by_cases h1 : (winO 2 n vs).length = 1
    · by_cases h2 : winO 2 n vs = winO 2 n (mapV List.reverse vs)
      · exfalso
        have h0' : profOk n (mapV List.reverse vs) = true := by
          rw [prof_iff] at h0 ⊢
          refine ⟨h0.1, by rw [mapV_len]; exact h0.2.1, fun x hx => ?_⟩
          obtain ⟨y, hy, rfl⟩ := List.mem_map.1 hx
          exact ⟨rk_perm_ok (List.reverse_perm _) (h0.2.2 y hy).1, (h0.2.2 y hy).2⟩
        have strict : ∀ {us : List Vt} {a : Nat}, profOk n us = true → winO 2 n us = [(a : Int)] → ∀ j, j < n → j ≠ a → scoV (borW n) us j < scoV (borW n) us a := fun {us a} hu he j hj hne => by
          rw [winO_eq hu] at he
          have he' : bestL (rowL n (scoV (borW n) us)) = [(a : Int)] := he
          obtain ⟨b, r, e2, hB⟩ := best_bestAt (n := n) (by omega) (scoV (borW n) us)
          rw [he'] at e2
          injection e2 with e2 _
          have : b = a := by omega
          subst this
          have h3 := hB.ge j hj
          by_cases e3 : scoV (borW n) us j = scoV (borW n) us b
          · exfalso
            have hmx : maxL (rowL n (scoV (borW n) us)) = scoV (borW n) us b := by
              have m1 := maxL_ge (List.mem_of_getElem? (rowL_at (f := scoV (borW n) us) hB.lt))
              have m2 := maxL_mem (xs := rowL n (scoV (borW n) us)) (fun e => by
                have := congrArg List.length e
                rw [rowL_len] at this
                simp at this
                omega)
              obtain ⟨i, hi⟩ := List.mem_iff_getElem?.1 m2
              obtain ⟨hin, e⟩ := rowL_val hi
              have := hB.ge i hin
              omega
            have hm : (j : Int) ∈ bestL (rowL n (scoV (borW n) us)) := by
              unfold bestL
              rw [rowL_len]
              refine upL_mem.2 ⟨j, hj, ?_, rfl⟩
              unfold isMax
              rw [rowL_at hj, hmx, e3]
              simp
            rw [he', List.mem_singleton] at hm
            omega
          · omega
        obtain ⟨x, hx⟩ := List.length_eq_one_iff.1 h1
        obtain ⟨a, ha, _, _, hat⟩ := win_headB (rule := 2) h0 (by omega) (by omega)
        have hxa : x = a := by rw [hx] at hat; simpa using hat
        rw [hxa] at hx
        have s1 := strict h0 hx
        have s2 := strict h0' (by rw [← h2]; exact hx)
        obtain ⟨j, hj, hne⟩ : ∃ j, j < n ∧ j ≠ a := by
          by_cases e : a = 0
          · exact ⟨1, by omega, by omega⟩
          · exact ⟨0, by omega, by omega⟩
        have t1 := s1 j hj hne
        have t2 := s2 j hj hne
        have hsum : ∀ {us : List Vt}, SmallV n us → ∀ i, i < n → scoV (borW n) us i + scoV (borW n) (mapV List.reverse us) i = ((n : Int) - 1) * allV us := by
          intro us
          induction us with
          | nil => intro _ i _; show (0 : Int) = _ * 0; rw [Int.mul_zero]
          | cons y us ih =>
            intro hSu i hi
            have h3 := ih hSu.tail i hi
            have hk := hSu.head.1
            have hkr : rkOk n y.1.reverse = true := rk_perm_ok (List.reverse_perm _) hk
            obtain ⟨p, hp, ep, hpi, _⟩ := place_at hk hi
            have hl := (rk_len hk).1
            have er : placeI y.1.reverse i = ((n - 1 - p : Nat) : Int) := place_of hkr hi (by
              rw [List.getElem?_reverse (by omega), show y.1.length - 1 - (n - 1 - p) = p by omega, hpi])
            show scoV (borW n) (y :: us) i + scoV (borW n) ((y.1.reverse, y.2) :: mapV List.reverse us) i = _
            rw [scoV_cons, scoV_cons, allV_cons, ep, er, Int.toNat_natCast, Int.toNat_natCast, Int.mul_add, ← h3]
            have e1 : borW n p = (n : Int) - 1 - p := by unfold borW; omega
            have e2 : borW n (n - 1 - p) = (p : Int) := by unfold borW; omega
            show y.2 * borW n p + scoV (borW n) us i + (y.2 * borW n (n - 1 - p) + scoV (borW n) (mapV List.reverse us) i) = _
            rw [e1, e2]
            have e3 : ((n : Int) - 1) * y.2 = y.2 * ((n : Int) - 1 - p) + y.2 * (p : Int) := by
              rw [← Int.mul_add, Int.mul_comm]
              congr 1
              omega
            rw [e3]
            omega
        have u1 := hsum hS j hj
        have u2 := hsum hS a ha
        omega
      · rw [decide_eq_false h2]; simp
    · rw [decide_eq_false h1]; rfl
  · have : ¬ (2 : Int) ≤ (n : Int) := by omega
    rw [decide_eq_false this]; simp

/-- Who wins when a vote has another ranking. -/
noncomputable def gnW (rule sz : Int) (vs : List Vt) (k : Nat) (r : List Int) : Int := winB rule sz (vs.set k (r, (vs.getD k ([], 0)).2))
/-- The first of some rankings that leads to a candidate. -/
def wayO (W : List Int → Int) (rows : List (List Int)) (a : Int) : Option (List Int) := rows.find? (fun r => W r == a)
/-- The first of some rankings that leads to the winner that a true one prefers to all others. -/
def repT (W : List Int → Int) (truth : List Int) (rows : List (List Int)) : Nat → List Int × Int
  | 0 => ([], -1)
  | m + 1 => if (repT W truth rows m).2 < 0 ∨ prefB truth (W (rows.getD m [])) (repT W truth rows m).2 = true then (rows.getD m [], W (rows.getD m [])) else repT W truth rows m
def repO (W : List Int → Int) (truth : List Int) (n : Nat) : List Int × Int := repT W truth (allO n) (allO n).length
def plyB (rule sz : Int) (vs : List Vt) : Bool := profOk sz vs && (decide (sz ≤ 4) && inR rule 1 13)
def gnB (rule sz : Int) (vs : List Vt) (k : Int) : Bool := plyB rule sz vs && inR k 0 ((vs.length : Int) - 1)
noncomputable def reaO (rule sz : Int) (vs : List Vt) (k : Int) : List Int := if gnB rule sz vs k then upL sz.toNat (fun a => (wayO (gnW rule sz vs k.toNat) (allO sz.toNat) a).isSome) else []
set_option maxRecDepth 100000 in
theorem reaO_len (rule sz : Int) (vs : List Vt) (k : Int) : (reaO rule sz vs k).length ≤ 5 := by
  unfold reaO
  cases h : gnB rule sz vs k
  · simp
  · unfold gnB plyB at h
    simp only [Bool.and_eq_true, decide_eq_true_eq] at h
    have h2 := upL_len sz.toNat (fun a => (wayO (gnW rule sz vs k.toNat) (allO sz.toNat) a).isSome)
    rw [if_pos rfl]; omega
set_option maxRecDepth 100000 in
theorem wayO_at {W : List Int → Int} {rows : List (List Int)} {k : Nat} {r : List Int} (hr : rows[k]? = some r) (a : Int) : wayO W (rows.take (k + 1)) a = if (wayO W (rows.take k) a).isSome = false ∧ W r = a then some r else wayO W (rows.take k) a := by
  unfold wayO
  rw [take_at hr, List.find?_append]
  cases h : (rows.take k).find? (fun r => W r == a) with
  | some r' => simp
  | none =>
    by_cases e : W r = a
    · subst e; simp
    · have : (W r == a) = false := by rw [beq_eq_false_iff_ne]; exact e
      simp [this, e]
set_option maxRecDepth 100000 in
theorem wayO_mem {W : List Int → Int} {rows : List (List Int)} {a : Int} {r : List Int} (h : wayO W rows a = some r) : r ∈ rows ∧ W r = a := by
  unfold wayO at h
  exact ⟨List.mem_of_find?_eq_some h, by simpa using List.find?_some h⟩
set_option maxRecDepth 100000 in
theorem pref_trans {xs : List Int} {a b c : Int} (h1 : prefB xs a b = true) (h2 : prefB xs b c = true) : prefB xs a c = true := by
  unfold prefB at *
  simp only [Bool.and_eq_true, decide_eq_true_eq] at *
  omega
set_option maxRecDepth 100000 in
theorem pref_irr (xs : List Int) (a : Int) : prefB xs a a = false := by
  unfold prefB; simp
set_option maxRecDepth 100000 in
theorem repT_new {W : List Int → Int} {truth : List Int} {rows : List (List Int)} {m : Nat} {r : List Int} (hr : rows[m]? = some r) (h : (repT W truth rows m).2 < 0 ∨ prefB truth (W r) (repT W truth rows m).2 = true) : repT W truth rows (m + 1) = (r, W r) := by
  have hg : rows.getD m [] = r := by simp [List.getD, hr]
  rw [repT, hg, if_pos h]
set_option maxRecDepth 100000 in
theorem repT_old {W : List Int → Int} {truth : List Int} {rows : List (List Int)} {m : Nat} {r : List Int} (hr : rows[m]? = some r) (h : ¬ ((repT W truth rows m).2 < 0 ∨ prefB truth (W r) (repT W truth rows m).2 = true)) : repT W truth rows (m + 1) = repT W truth rows m := by
  have hg : rows.getD m [] = r := by simp [List.getD, hr]
  rw [repT, hg, if_neg h]
set_option maxRecDepth 100000 in
/-- What is known of the best answer among the first m rankings. -/
theorem repT_inv {W : List Int → Int} {truth : List Int} {rows : List (List Int)} (hW : ∀ r ∈ rows, 0 ≤ W r) : ∀ m, 1 ≤ m → m ≤ rows.length →
    ((repT W truth rows m).1 ∈ rows ∧ W (repT W truth rows m).1 = (repT W truth rows m).2) ∧ (∀ r ∈ rows.take m, prefB truth (W r) (repT W truth rows m).2 = false) ∧ wayO W (rows.take m) (repT W truth rows m).2 = some (repT W truth rows m).1
  | 0, h, _ => by omega
  | m + 1, _, hm => by
    obtain ⟨r, hr⟩ := at_of_lt (xs := rows) (k := m) (by omega)
    have hmem := List.mem_of_getElem? hr
    by_cases h : (repT W truth rows m).2 < 0 ∨ prefB truth (W r) (repT W truth rows m).2 = true
    · rw [repT_new hr h]
      have hno : ∀ r' ∈ rows.take m, prefB truth (W r') (W r) = false ∧ W r' ≠ W r := fun r' hr' => by
        by_cases h0 : m = 0
        · subst h0; simp at hr'
        · obtain ⟨⟨i1, i2⟩, i3, _⟩ := repT_inv (truth := truth) hW m (by omega) (by omega)
          have hp : prefB truth (W r) (repT W truth rows m).2 = true := by
            rcases h with h | h
            · have := hW _ i1; omega
            · exact h
          have h3 := i3 r' hr'
          refine ⟨?_, fun e => by rw [e, hp] at h3; cases h3⟩
          cases hq : prefB truth (W r') (W r)
          · rfl
          · rw [pref_trans hq hp] at h3; cases h3
      refine ⟨⟨hmem, rfl⟩, fun r' hr' => ?_, ?_⟩
      · rw [take_at hr] at hr'
        rcases List.mem_append.1 hr' with h1 | h1
        · exact (hno r' h1).1
        · rw [List.mem_singleton] at h1
          subst h1; exact pref_irr _ _
      · rw [wayO_at hr]
        have hn : (wayO W (rows.take m) (W r)).isSome = false := by
          cases hw : wayO W (rows.take m) (W r) with
          | none => rfl
          | some r' =>
            obtain ⟨w1, w2⟩ := wayO_mem hw
            exact absurd w2 (hno r' w1).2
        rw [if_pos ⟨hn, rfl⟩]
    · have h0 : m ≠ 0 := fun e => by subst e; exact h (.inl (by simp [repT]))
      obtain ⟨i1, i3, i4⟩ := repT_inv (truth := truth) hW m (by omega) (by omega)
      rw [repT_old hr h]
      refine ⟨i1, fun r' hr' => ?_, ?_⟩
      · rw [take_at hr] at hr'
        rcases List.mem_append.1 hr' with h1 | h1
        · exact i3 r' h1
        · rw [List.mem_singleton] at h1
          subst h1
          cases hp : prefB truth (W r') (repT W truth rows m).2
          · rfl
          · exact absurd (.inr hp) h
      · rw [wayO_at hr, i4, if_neg (by simp)]
set_option maxRecDepth 100000 in
theorem gnW_lt {rule : Int} {n : Nat} {vs : List Vt} {k : Nat} {r : List Int} {x : Vt} (h0 : profOk n vs = true) (r1 : 1 ≤ rule) (r2 : rule ≤ 13) (hx : vs[k]? = some x) (hr : rkOk n r = true) : ∃ a : Nat, a < n ∧ gnW rule n vs k r = a := by
  unfold gnW
  refine winB_some ?_ r1 r2
  have hgd : vs.getD k ([], 0) = x := by simp [List.getD, hx]
  rw [hgd]
  have hxm := List.mem_of_getElem? hx
  unfold profOk at h0 ⊢
  simp only [Bool.and_eq_true, decide_eq_true_eq, List.all_eq_true] at h0 ⊢
  refine ⟨h0.1, by rw [List.length_set]; exact h0.2.1, fun y hy => ?_⟩
  rcases List.mem_or_eq_of_mem_set hy with h | h
  · exact h0.2.2 y h
  · subst h
    have h2 := h0.2.2 x hxm
    unfold vtOk at h2 ⊢
    simp only [Bool.and_eq_true] at h2 ⊢
    exact ⟨hr, h2.2⟩

/-- Whether a voter of a true ranking has something better to hand in. -/
noncomputable def betB (rule sz : Int) (vs : List Vt) (k : Nat) (truth : List Int) : Bool := prefB truth (repO (gnW rule sz vs k) truth sz.toNat).2 (winB rule sz vs)
noncomputable def setO (rule sz : Int) (vs : List Vt) (sz2 : Int) (ts : List Vt) : Bool :=
  plyB rule sz vs && (profOk sz2 ts && (decide (sz2 = sz) && (decide (ts.length = vs.length) && allN ts.length (fun k => !betB rule sz vs k (ts.getD k ([], 0)).1))))
set_option maxRecDepth 100000 in
theorem best_at {W : List Int → Int} {truth : List Int} {rows : List (List Int)} {n i : Nat} {a : Int} {r : List Int} (hW : ∀ r ∈ rows, ∃ y : Nat, y < n ∧ W r = y) (hne : 1 ≤ rows.length) (hk : rkOk n truth = true) (hi : truth[i]? = some a) (hno : ∀ j, j < i → ∀ b, truth[j]? = some b → wayO W rows b = none) (hs : wayO W rows a = some r) : repT W truth rows rows.length = (r, a) := by
  obtain ⟨⟨b1, b2⟩, b3, b4⟩ := repT_inv (W := W) (truth := truth) (fun r hr => by obtain ⟨y, _, e⟩ := hW r hr; omega) rows.length hne (Nat.le_refl _)
  rw [List.take_length] at b3 b4
  obtain ⟨y, hy, ey⟩ := hW _ b1
  obtain ⟨m1, m2⟩ := wayO_mem hs
  obtain ⟨y', hy', ey'⟩ := hW _ m1
  obtain ⟨k, hk1, k1, k2, k3⟩ := place_at hk hy
  obtain ⟨k', hk1', k1', k2', k3'⟩ := place_at hk hy'
  have ha : a = y' := by rw [← m2, ey']
  have hik : i = k' := k3' i (by rw [hi, ha])
  have hb : (repT W truth rows rows.length).2 = y := by rw [← b2, ey]
  have h3 := b3 r m1
  rw [hb, ey'] at h3
  rw [hb] at b4
  have hnk : ¬ k' < k := fun h => by
    have : prefB truth y' y = true := by
      unfold prefB
      simp only [Bool.and_eq_true, decide_eq_true_eq]
      omega
    rw [this] at h3; cases h3
  have hkn : ¬ k < k' := fun h => by
    have := hno k (by omega) _ k2
    rw [this] at b4; cases b4
  have e : k = k' := by omega
  subst e
  have e2 : (y : Int) = y' := by rw [k2] at k2'; injection k2'
  rw [ha, ← e2, hs.symm.trans (by rw [ha, ← e2]; exact b4) |> Option.some.inj] 
  rw [← hb]
set_option maxRecDepth 100000 in
theorem best_end {W : List Int → Int} {truth : List Int} {rows : List (List Int)} {n : Nat} (hW : ∀ r ∈ rows, ∃ y : Nat, y < n ∧ W r = y) (hne : 1 ≤ rows.length) (hk : rkOk n truth = true) (hno : ∀ j, j < truth.length → ∀ b, truth[j]? = some b → wayO W rows b = none) : False := by
  obtain ⟨⟨b1, b2⟩, b3, b4⟩ := repT_inv (W := W) (truth := truth) (fun r hr => by obtain ⟨y, _, e⟩ := hW r hr; omega) rows.length hne (Nat.le_refl _)
  rw [List.take_length] at b4
  obtain ⟨y, hy, ey⟩ := hW _ b1
  obtain ⟨k, hk1, k1, k2, k3⟩ := place_at hk hy
  rw [← b2, ey, hno k (List.getElem?_eq_some_iff.1 k2).1 _ k2] at b4
  cases b4

/-- The best ranking that a voter can hand in, of a rule and a profile. -/
noncomputable def bstO (rule sz : Int) (vs : List Vt) (k : Int) : List Int := if gnB rule sz vs k then (repO (gnW rule sz vs k.toNat) (vs.getD k.toNat ([], 0)).1 sz.toNat).1 else []
noncomputable def gainB (rule sz : Int) (vs : List Vt) (k : Nat) : Bool := gnB rule sz vs k && betB rule sz vs k (vs.getD k ([], 0)).1
noncomputable def gfstO (rule sz : Int) (vs : List Vt) : Int := firstN vs.length (gainB rule sz vs)
set_option maxRecDepth 100000 in
theorem repO_ok {rule : Int} {n : Nat} {vs : List Vt} {k : Nat} {x : Vt} (truth : List Int) (h0 : profOk n vs = true) (r1 : 1 ≤ rule) (r2 : rule ≤ 13) (hx : vs[k]? = some x) : rkOk n (repO (gnW rule n vs k) truth n).1 = true ∧ gnW rule n vs k (repO (gnW rule n vs k) truth n).1 = (repO (gnW rule n vs k) truth n).2 := by
  have hsz := prof_size h0
  have n1 : 1 ≤ n := by omega
  have n2 : n ≤ 5 := by omega
  have h := (repT_inv (W := gnW rule n vs k) (truth := truth) (rows := allO n) (fun r hr => by obtain ⟨y, _, e⟩ := gnW_lt h0 r1 r2 hx ((allO_mem n1 n2).1 hr); omega) (allO n).length (allO_pos n1 n2) (Nat.le_refl _)).1
  exact ⟨(allO_mem n1 n2).1 h.1, h.2⟩

end Go.Proofs.YtfmeklgdaabooaaGreatDoor
