/- The winner of Bucklin's rule. Strengths of paths, as tables that are improved cell by cell. Strengths of paths on both sides. Schulze's winners. -/
import Derived.Test.YtilcdnkkabmbfaaGreatCk14
import Derived.Test.YtilcdnkkabmbfaaGreatCk6
import Derived.Test.YtilcdnkkabmbfaaGreatCk7
namespace Go.Proofs.YtilcdnkkabmbfaaGreat
open Go.RowKit

set_option maxRecDepth 100000 in
theorem rowL_len_le {n m : Nat} {f : Nat → Int} (h : n ≤ m) : (rowL n f).length ≤ m := by rw [rowL_len]; exact h
set_option maxRecDepth 100000 in
theorem best_first {xs : List Int} (h : 1 ≤ xs.length) : ∃ (i : Nat) (r : List Int), bestL xs = (i : Int) :: r ∧ xs[i]? = some (maxL xs) ∧ i < xs.length ∧ ∀ j, j < i → xs[j]? ≠ some (maxL xs) := by
  have h1 := bestT_head (xs := xs) h (Nat.le_refl _)
  rw [bestT_all, List.take_length] at h1
  exact h1

set_option maxRecDepth 100000 in
set_option maxHeartbeats 2000000 in
theorem bukO_spec (w : World) (sz : Int) (a : Option Addr) (c : Nat) (vs : List Vt) (hR : RdV w a vs) :
    Calls Tryz.prog 185 #[.agg #[.int .i64 sz, .slice a vs.length c]] w fun e w' => e = .returned (.int .i64 (bukO sz vs)) ∧ Ext w w' := by
  have q0 := new0 w (.int .i64 sz) [.slice a vs.length c] 29
  have q1 := new1 w (.int .i64 sz) (.slice a vs.length c) [] 29
  cases h0 : profOk sz vs
  · go_enter Tryz.func185, Tryz.ntmps185
    go_wp2_with (go_at_call 127; refine (prof_spec _ _ _ _ _ (hR.ext (by repeat (first | exact Ext.refl _ | assumption | refine Ext.alloc ?_ _ | refine Ext.drew ?_ | refine Ext.trans ?_ (by assumption))))).mono ?_; rintro e w1 ⟨rfl, hw1⟩; have q0 := Ext.keep (w' := w1) (by repeat (first | exact Ext.refl _ | assumption | refine Ext.alloc ?_ _ | refine Ext.drew ?_ | refine Ext.trans ?_ (by assumption))) q0; have q1 := Ext.keep (w' := w1) (by repeat (first | exact Ext.refl _ | assumption | refine Ext.alloc ?_ _ | refine Ext.drew ?_ | refine Ext.trans ?_ (by assumption))) q1)
    go_ret
    exact ⟨ret_int (by simp [bukO, h0]), (by repeat (first | exact Ext.refl _ | assumption | refine Ext.alloc ?_ _ | refine Ext.drew ?_ | refine Ext.trans ?_ (by assumption)))⟩
  obtain ⟨n, rfl, n1, n2⟩ := prof_nat h0
  have HP := hide h0
  have hlv := levV_le n vs
  go_enter Tryz.func185, Tryz.ntmps185
  go_wp2_with (go_at_call 127; refine (prof_spec _ _ _ _ _ (hR.ext (by repeat (first | exact Ext.refl _ | assumption | refine Ext.alloc ?_ _ | refine Ext.drew ?_ | refine Ext.trans ?_ (by assumption))))).mono ?_; rintro e w1 ⟨rfl, hw1⟩; have q0 := Ext.keep (w' := w1) (by repeat (first | exact Ext.refl _ | assumption | refine Ext.alloc ?_ _ | refine Ext.drew ?_ | refine Ext.trans ?_ (by assumption))) q0; have q1 := Ext.keep (w' := w1) (by repeat (first | exact Ext.refl _ | assumption | refine Ext.alloc ?_ _ | refine Ext.drew ?_ | refine Ext.trans ?_ (by assumption))) q1)
  refine wp_region_X (by kernel_rfl) (by kernel_rfl) ?_
  repeat' (refine wpX_stepQ (fun K hK => ?_)
           go_simp
           try (rw [if_neg (by intro h; simp [undef] at h)])
           try split
           all_goals
             first
             | (refine hK _ ?_
                clear hK K)
             | (apply Exists.intro
                refine ⟨fun wq hwq => ?_, hK _ ?_⟩
                · have hcq := hwq.cellS
                  go_simp
                  first
                  | exact ⟨Ext.refl _, rfl⟩
                  | exact ⟨Ext.refl _, lev_spec _ _ _ _ _ (hR.ext (by repeat (first | exact Ext.refl _ | assumption | refine Ext.alloc ?_ _ | refine Ext.drew ?_ | refine Ext.trans ?_ (by assumption)))) HP.out⟩
                clear hK K))
  refine wpX_stepS rfl (by kernel_rfl) (fun K hK wq hwq => ?_)
  go_simp
  refine (wth_spec _ n a c vs (levV n vs) (hR.ext (by repeat (first | exact Ext.refl _ | assumption | refine Ext.alloc ?_ _ | refine Ext.drew ?_ | refine Ext.trans ?_ (by assumption)))) HP.out hlv).mono ?_
  rintro e w3 ⟨v, rfl, hv, hw3⟩
  refine ⟨hw3, hK _ _ ?_⟩
  clear hK K
  obtain ⟨av, cv, rfl, _, _, hRv, _⟩ := hv.val
  refine wpX_stepS rfl (by kernel_rfl) (fun K hK wq hwq => ?_)
  go_simp
  refine (best_spec5 _ av cv _ (hRv.ext (by repeat (first | exact Ext.refl _ | assumption | refine Ext.alloc ?_ _ | refine Ext.drew ?_ | refine Ext.trans ?_ (by assumption)))) (rowL_len_le (by omega))).mono ?_
  rintro e w4 ⟨v2, rfl, hv2, hw4⟩
  refine ⟨hw4, hK _ _ ?_⟩
  clear hK K
  obtain ⟨i, r, hb, _⟩ := best_first (xs := rowL n (wthV vs (levV n vs))) (by rw [rowL_len]; exact n1)
  obtain ⟨a2, c2, rfl, _, _, hR2, _⟩ := hv2.val
  obtain ⟨b3, off3, rfl, d0⟩ := hR2.at_ (k := 0) (x := (i : Int)) (by rw [hb]; rfl)
  rw [Nat.add_zero] at d0
  have hbl : 1 ≤ (bestL (rowL n (wthV vs (levV n vs)))).length := by rw [hb]; simp
  obtain ⟨L, hL⟩ : ∃ L : Nat, L = (bestL (rowL n (wthV vs (levV n vs)))).length := ⟨_, rfl⟩
  rw [← hL] at hbl ⊢
  have HB := hide hb
  have hbl0 : 0 < L := hbl
  clear hb hv hv2 hRv hR2 hL
  repeat' (refine wpX_stepQ (fun K hK => ?_)
           go_simp
           try (rw [if_neg (by intro h; simp [undef] at h)])
           try split
           all_goals
             first
             | (refine hK _ ?_
                clear hK K)
             | (apply Exists.intro
                refine ⟨fun wq hwq => ?_, hK _ ?_⟩
                · have hcq := hwq.cellS
                  go_simp
                  first
                  | exact ⟨Ext.refl _, rfl⟩
                clear hK K))
  refine wpX_nil (fun wz hwz => ?_)
  go_wp2
  go_ret
  refine ⟨ret_int ?_, (by repeat (first | exact Ext.refl _ | assumption | refine Ext.alloc ?_ _ | refine Ext.drew ?_ | refine Ext.trans ?_ (by assumption)))⟩
  simp only [bukO, h0, if_true, Int.toNat_natCast, HB.out, List.headD_cons]

set_option maxRecDepth 100000 in
set_option maxHeartbeats 2000000 in
theorem bukO_impl (w : World) (sz : Int) (a : Option Addr) (c : Nat) (vs : List Vt) (hR : RdV w a vs) :
    Calls Tryz.prog 49 #[.agg #[.int .i64 sz, .slice a vs.length c]] w fun e w' => e = .returned (.int .i64 (bukO sz vs)) ∧ Ext w w' := by
  have q0 := new0 w (.int .i64 sz) [.slice a vs.length c] 29
  have q1 := new1 w (.int .i64 sz) (.slice a vs.length c) [] 29
  cases h0 : profOk sz vs
  · have HL : Hid (levO sz vs = -1) := hide (by simp [levO, h0])
    go_enter Tryz.func49, Tryz.ntmps49
    go_wp2_with fail
    refine (levO_impl _ sz a c vs (hR.ext (by repeat (first | exact Ext.refl _ | assumption | refine Ext.alloc ?_ _ | refine Ext.drew ?_ | refine Ext.trans ?_ (by assumption))))).mono ?_
    rintro e w1 ⟨rfl, hw1⟩
    rw [HL.out]
    go_wp2
    go_ret
    exact ⟨ret_int (by simp [bukO, h0]), (by repeat (first | exact Ext.refl _ | assumption | refine Ext.alloc ?_ _ | refine Ext.drew ?_ | refine Ext.trans ?_ (by assumption)))⟩
  obtain ⟨n, rfl, n1, n2⟩ := prof_nat h0
  have HS := hide (prof_small h0)
  have hlv := levV_le n vs
  have HL : Hid (levO n vs = (levV n vs : Int)) := hide (by simp [levO, h0])
  obtain ⟨i, r, hb, hmx, hil, hmin⟩ := best_first (xs := rowL n (wthV vs (levV n vs))) (by rw [rowL_len]; exact n1)
  have HO : Hid (bukO n vs = i) := hide (by simp only [bukO, h0, if_true, Int.toNat_natCast, hb, List.headD_cons])
  by_cases hz : levV n vs = 0
  · have hi0 : i = 0 := by
      rcases Nat.eq_zero_or_pos i with h | h
      · exact h
      · have hall : ∀ j, j < n → wthV vs 0 j = 0 := fun j hj => by
          rw [← wth_sum HS.out hj 0]; rfl
        exfalso
        refine hmin 0 h ?_
        rw [← hmx, rowL_at (by omega), rowL_at (by rw [rowL_len] at hil; exact hil), hz, hall 0 (by omega), hall i (by rw [rowL_len] at hil; exact hil)]
    have HI := hide hi0
    have HZ := hide hz
    clear hb hmx hil hmin hi0 hz h0
    go_enter Tryz.func49, Tryz.ntmps49
    go_wp2_with fail
    refine (levO_impl _ n a c vs (hR.ext (by repeat (first | exact Ext.refl _ | assumption | refine Ext.alloc ?_ _ | refine Ext.drew ?_ | refine Ext.trans ?_ (by assumption))))).mono ?_
    rintro e w1 ⟨rfl, hw1⟩
    rw [HL.out, HZ.out]
    go_wp2
    go_ret
    exact ⟨ret_int (by rw [HO.out, HI.out]; rfl), (by repeat (first | exact Ext.refl _ | assumption | refine Ext.alloc ?_ _ | refine Ext.drew ?_ | refine Ext.trans ?_ (by assumption)))⟩
  · have hp : ¬ ((levV n vs : Int) < 1) := by omega
    have HB := hide hb
    clear hb hmx hil hmin h0
    go_enter Tryz.func49, Tryz.ntmps49
    go_wp2_with fail
    refine (levO_impl _ n a c vs (hR.ext (by repeat (first | exact Ext.refl _ | assumption | refine Ext.alloc ?_ _ | refine Ext.drew ?_ | refine Ext.trans ?_ (by assumption))))).mono ?_
    rintro e w1 ⟨rfl, hw1⟩
    rw [HL.out]
    have q0 := hw1.keep q0
    have q1 := hw1.keep q1
    go_wp2_with fail
    refine (wth_impl _ n a c vs (levV n vs) (hR.ext (by repeat (first | exact Ext.refl _ | assumption | refine Ext.alloc ?_ _ | refine Ext.drew ?_ | refine Ext.trans ?_ (by assumption)))) HS.out n2).mono ?_
    rintro e w3 ⟨v, rfl, hv, hw3⟩
    obtain ⟨av, cv, rfl, _, hRv, _⟩ := hv.fr
    go_wp2_with fail
    refine (gr_impl _ av cv _ (hRv.ext (by repeat (first | exact Ext.refl _ | assumption | refine Ext.alloc ?_ _ | refine Ext.drew ?_ | refine Ext.trans ?_ (by assumption)))) (by rw [rowL_len]; omega)).mono ?_
    rintro e w4 ⟨v2, rfl, hv2, hw4⟩
    obtain ⟨a2, c2, rfl, _, _, hR2, _⟩ := hv2.val
    obtain ⟨b3, off3, rfl, d0⟩ := hR2.at_ (k := 0) (x := (i : Int)) (by rw [HB.out]; rfl)
    rw [Nat.add_zero] at d0
    have hbl : 1 ≤ (bestL (rowL n (wthV vs (levV n vs)))).length := by rw [HB.out]; simp
    clear hv hv2 hRv hR2
    go_wp2
    go_ret
    exact ⟨ret_int HO.out.symm, (by repeat (first | exact Ext.refl _ | assumption | refine Ext.alloc ?_ _ | refine Ext.drew ?_ | refine Ext.trans ?_ (by assumption)))⟩

set_option maxRecDepth 100000 in
/-- A cell of the matrix is written whose row is known. -/
theorem Mat.set {w : World} {B g n b m c : Nat} {us : Nat → Value} {rows : Nat → List Int} (h : Mat w B g n us rows) {i j : Nat} {x : Int} (hi : i < n) (hx : (rows i)[j]? = some x) (hu : us i = .slice (some ⟨b, 0, none⟩) m c) (y : Int) :
    Mat (w.setCell ⟨b, j, none⟩ (.int .i64 y)) B g n us (fun o => if o = i then (rows i).set j y else rows o) := by
  obtain ⟨b', c', hv, _, _, _, _, hM⟩ := h.cell hi hx
  rw [hu] at hv
  injection hv with hv
  injection hv with hv
  injection hv with hv
  subst hv
  exact hM y

def fw1 (M : Nat → Nat → Int) (k a b : Nat) : Nat → Nat → Int := fun x y => if x = a ∧ y = b ∧ a ≠ b then max (M a b) (min (M a k) (M k b)) else M x y
def fwB (M : Nat → Nat → Int) (k a : Nat) : Nat → Nat → Nat → Int
  | 0 => M
  | m + 1 => fw1 (fwB M k a m) k a m
def fwA (n : Nat) (M : Nat → Nat → Int) (k : Nat) : Nat → Nat → Nat → Int
  | 0 => M
  | i + 1 => fwB (fwA n M k i) k i n
def fwK (n : Nat) (M : Nat → Nat → Int) : Nat → Nat → Nat → Int
  | 0 => M
  | k + 1 => fwA n (fwK n M k) k n
def fw0 (vs : List Vt) (a b : Nat) : Int := if bt vs a b then pairV vs a b else 0
def pthV (n : Nat) (vs : List Vt) : Nat → Nat → Int := fwK n (fw0 vs) n
def pthO (sz : Int) (vs : List Vt) : List (List Int) := if profOk sz vs then tabL sz.toNat (pthV sz.toNat vs) else []
set_option maxRecDepth 100000 in
theorem pthO_bd (sz : Int) (vs : List Vt) : (pthO sz vs).length ≤ 1000 ∧ ∀ x ∈ pthO sz vs, x.length ≤ 100 := by
  unfold pthO
  cases h0 : profOk sz vs
  · simp
  · obtain ⟨n, rfl, n1, n2⟩ := prof_nat h0
    simpa using tabL_bd n2
set_option maxRecDepth 100000 in
theorem fw1_same (M : Nat → Nat → Int) (k a : Nat) : fw1 M k a a = M := by
  funext x y; unfold fw1; rw [if_neg (fun h => h.2.2 rfl)]
set_option maxRecDepth 100000 in
theorem fw1_row {n : Nat} (M : Nat → Nat → Int) {k a b : Nat} (hne : a ≠ b) (o : Nat) :
    (if o = a then (rowL n (M a)).set b (max (M a b) (min (M a k) (M k b))) else rowL n (M o)) = rowL n (fw1 M k a b o) := by
  by_cases e : o = a
  · subst e
    rw [if_pos rfl]
    refine rowL_set (fun j _ => ?_)
    unfold fw1
    by_cases e2 : j = b
    · subst e2; rw [if_pos ⟨rfl, rfl, hne⟩, if_pos rfl]
    · rw [if_neg (fun h => e2 h.2.1), if_neg e2]
  · rw [if_neg e]
    refine rowL_congr (fun j _ => ?_)
    unfold fw1
    rw [if_neg (fun h => e h.1)]

set_option maxRecDepth 100000 in
theorem Mat.form {w : World} {B g n : Nat} {us : Nat → Value} {rows : Nat → List Int} (h : Mat w B g n us rows) {i : Nat} (hi : i < n) (hne : 1 ≤ (rows i).length) : ∃ b c, us i = .slice (some ⟨b, 0, none⟩) (rows i).length c := by
  obtain ⟨x, hx⟩ := at_of_lt (xs := rows i) (k := 0) hne
  obtain ⟨b, c, hv, _⟩ := h.cell hi hx
  exact ⟨b, c, hv⟩
set_option maxRecDepth 100000 in
theorem Mat.read {w : World} {B g n b m c : Nat} {us : Nat → Value} {rows : Nat → List Int} (h : Mat w B g n us rows) {i j : Nat} {x : Int} (hi : i < n) (hx : (rows i)[j]? = some x) (hu : us i = .slice (some ⟨b, 0, none⟩) m c) :
    w.cell? ⟨b, j, none⟩ = some (.int .i64 x) ∧ w.frozen? ⟨b, j, none⟩ = false ∧ B ≤ b := by
  obtain ⟨b', c', hv, _, hB, h1, h2, _⟩ := h.cell hi hx
  rw [hu] at hv
  injection hv with hv
  injection hv with hv
  injection hv with hv
  subst hv
  exact ⟨h1, h2, hB⟩
set_option maxRecDepth 100000 in
theorem Mat.three {w : World} {B g n : Nat} {us : Nat → Value} {M : Nat → Nat → Int} (h : Mat w B g n us (fun o => rowL n (M o))) {a b k : Nat} (ha : a < n) (hb : b < n) (hk : k < n) :
    ∃ ba ca bk ck, w.cell? ⟨g, a, none⟩ = some (.slice (some ⟨ba, 0, none⟩) n ca) ∧ w.cell? ⟨g, k, none⟩ = some (.slice (some ⟨bk, 0, none⟩) n ck) ∧ w.cell? ⟨ba, b, none⟩ = some (.int .i64 (M a b)) ∧ w.cell? ⟨ba, k, none⟩ = some (.int .i64 (M a k)) ∧
      w.cell? ⟨bk, b, none⟩ = some (.int .i64 (M k b)) ∧ w.frozen? ⟨ba, b, none⟩ = false ∧ B ≤ ba ∧
      ∀ (w' : World) (y : Int), Ext w w' → a ≠ b → y = max (M a b) (min (M a k) (M k b)) → Mat (w'.setCell ⟨ba, b, none⟩ (.int .i64 y)) B g n us (fun o => rowL n (fw1 M k a b o)) := by
  obtain ⟨ba, ca, hua⟩ := h.form ha (by rw [rowL_len]; omega)
  obtain ⟨bk, ck, huk⟩ := h.form hk (by rw [rowL_len]; omega)
  rw [rowL_len] at hua huk
  obtain ⟨h1, h2, h3⟩ := h.read ha (rowL_at (f := M a) hb) hua
  refine ⟨ba, ca, bk, ck, by rw [h.outer.cell a ha, hua], by rw [h.outer.cell k hk, huk], h1, (h.read ha (rowL_at (f := M a) hk) hua).1, (h.read hk (rowL_at (f := M k) hb) huk).1, h2, h3, fun w' y hw hne hy => ?_⟩
  subst hy
  exact ((h.ext hw).set ha (rowL_at (f := M a) hb) hua _).congr (fun o _ => fw1_row M hne o)

def fwP (vs : List Vt) (i m j : Nat) : Int := if j < m then fw0 vs i j else 0
set_option maxRecDepth 100000 in
theorem fwP_all {n : Nat} (vs : List Vt) (i : Nat) : rowL n (fwP vs i n) = rowL n (fw0 vs i) := rowL_congr (fun j hj => by unfold fwP; rw [if_pos hj])
set_option maxRecDepth 100000 in
theorem fwP_zero (vs : List Vt) (i : Nat) : fwP vs i 0 = fun _ => 0 := by funext j; unfold fwP; rw [if_neg (by omega)]
set_option maxRecDepth 100000 in
theorem fwP_next (vs : List Vt) (i m j : Nat) : fwP vs i (m + 1) j = if j = m then fw0 vs i m else fwP vs i m j := by
  unfold fwP
  by_cases e : j = m
  · subst e; rw [if_pos (by omega), if_pos rfl]
  · rw [if_neg e]
    by_cases h : j < m
    · rw [if_pos (by omega), if_pos h]
    · rw [if_neg (by omega), if_neg h]

set_option maxRecDepth 100000 in
set_option maxHeartbeats 8000000 in
theorem pth_spec (w : World) (sz : Int) (a : Option Addr) (c : Nat) (vs : List Vt) (hR : RdV w a vs) :
    Calls Tryz.prog 205 #[.agg #[.int .i64 sz, .slice a vs.length c]] w fun e w' => ∃ v, e = .returned v ∧ WrSS w' w.heap.size v (pthO sz vs) ∧ Ext w w' := by
  have q0 := new0 w (.int .i64 sz) [.slice a vs.length c] 29
  have q1 := new1 w (.int .i64 sz) (.slice a vs.length c) [] 29
  cases h0 : profOk sz vs
  · go_enter Tryz.func205, Tryz.ntmps205
    go_wp2_with (go_at_call 127; refine (prof_spec _ _ _ _ _ (hR.ext (by repeat (first | exact Ext.refl _ | assumption | refine Ext.alloc ?_ _ | refine Ext.drew ?_ | refine Ext.trans ?_ (by assumption))))).mono ?_; rintro e w1 ⟨rfl, hw1⟩; have q0 := Ext.keep (w' := w1) (by repeat (first | exact Ext.refl _ | assumption | refine Ext.alloc ?_ _ | refine Ext.drew ?_ | refine Ext.trans ?_ (by assumption))) q0; have q1 := Ext.keep (w' := w1) (by repeat (first | exact Ext.refl _ | assumption | refine Ext.alloc ?_ _ | refine Ext.drew ?_ | refine Ext.trans ?_ (by assumption))) q1)
    go_ret
    exact ⟨_, rfl, by simp [pthO, h0]; exact WrSS.nil _ _ _ _, (by repeat (first | exact Ext.refl _ | assumption | refine Ext.alloc ?_ _ | refine Ext.drew ?_ | refine Ext.trans ?_ (by assumption)))⟩
  obtain ⟨n, rfl, n1, n2⟩ := prof_nat h0
  have HS := hide (prof_small h0)
  obtain ⟨i0, hi, hz0, hz1, hz2⟩ := info_parts info_int
  have hmk := fun W => run_make_rowN (P := Tryz.prog) 36 3 i0 _ Tryz.underlying36 hi hz0 .i64 .i64 n n (Nat.le_refl _) (by rw [hz2]; omega) (by omega) W
  rw [hz1, Nat.mul_one] at hmk
  go_enter Tryz.func205, Tryz.ntmps205
  go_wp2_with (go_at_call 127; refine (prof_spec _ _ _ _ _ (hR.ext (by repeat (first | exact Ext.refl _ | assumption | refine Ext.alloc ?_ _ | refine Ext.drew ?_ | refine Ext.trans ?_ (by assumption))))).mono ?_; rintro e w1 ⟨rfl, hw1⟩; have q0 := Ext.keep (w' := w1) (by repeat (first | exact Ext.refl _ | assumption | refine Ext.alloc ?_ _ | refine Ext.drew ?_ | refine Ext.trans ?_ (by assumption))) q0; have q1 := Ext.keep (w' := w1) (by repeat (first | exact Ext.refl _ | assumption | refine Ext.alloc ?_ _ | refine Ext.drew ?_ | refine Ext.trans ?_ (by assumption))) q1)
  have hw : Ext w w1 := (by repeat (first | exact Ext.refl _ | assumption | refine Ext.alloc ?_ _ | refine Ext.drew ?_ | refine Ext.trans ?_ (by assumption)))
  have hR0 := hR.ext hw
  have hO := OwnSS.made0 w1
  have h20 := Ext.new w1 (.cells #[] 36)
  obtain ⟨wb, hwb⟩ : ∃ wb : World, wb = w1 := ⟨_, rfl⟩
  subst hwb
  generalize wb.alloc (.cells #[] 36) = W0 at hO h20 ⊢
  go_loopw [3, 4, 5, 6, 24, 25] (fun v i _ _ _ _ wr => ∃ k : Nat, k ≤ n ∧ i = .int .i64 k ∧ OwnSS wr wb.heap.size v (tabTo n k (fw0 vs)) ∧ Ext wb wr) (fun _ i _ _ _ _ _ => n - (intOf i).toNat)
  case atStart => exact ⟨0, Nat.zero_le _, rfl, hO, h20⟩
  case round =>
    clear h20 hO
    obtain ⟨i, hi, rfl, hown, hwr⟩ := hrel
    have r0 := hwr.keep q0
    have htl := tabTo_len n i (fw0 vs)
    by_cases hit : i < n
    · go_wp2_with fail
      have hO := OwnI.made wr n (by omega)
      rw [← fwP_zero vs i] at hO
      have hE := Ext.new wr (.cells (madeCells #[.int .i64 0] n) 3)
      obtain ⟨wo, hwo⟩ : ∃ wo : World, wo = wr := ⟨_, rfl⟩
      subst hwo
      generalize wo.alloc (.cells (madeCells #[.int .i64 0] n) 3) = W1 at hO hE ⊢
      go_loopw [6, 25] (fun _ m wr => ∃ k : Nat, k ≤ n ∧ m = .int .i64 k ∧ OwnI wr wo.heap.size (.slice (some ⟨wo.heap.size, 0, none⟩) n n) (rowL n (fwP vs i k)) ∧ Ext wo wr) (fun _ m _ => n - (intOf m).toNat)
      case atStart => exact ⟨0, Nat.zero_le _, rfl, hO, hE⟩
      case round =>
        clear hO hE r0
        obtain ⟨k, hk, rfl, hrow, hwr'⟩ := hrel
        have r0 := (hwr.trans hwr').keep q0
        have r1 := (hwr.trans hwr').keep q1
        have hRr := hR0.ext (hwr.trans hwr')
        by_cases hlt : k < n
        · have HR := hide hrow
          cases hb : beatsV vs i k
          · clear hrow
            go_wp2_with (go_at_call 201; refine (beats_spec _ _ _ _ _ _ _ (hRr.ext (by repeat (first | exact Ext.refl _ | assumption | refine Ext.alloc ?_ _ | refine Ext.drew ?_ | refine Ext.trans ?_ (by assumption)))) HS.out).mono ?_; rintro e w1 ⟨rfl, hw1⟩)
            refine ⟨⟨k + 1, by omega, by go_num, ?_, (by repeat (first | exact Ext.refl _ | assumption | refine Ext.alloc ?_ _ | refine Ext.drew ?_ | refine Ext.trans ?_ (by assumption)))⟩, by simp [intOf]; omega⟩
            rw [rowL_congr (g := fwP vs i k) (fun j _ => by
              rw [fwP_next]
              by_cases e : j = k
              · rw [if_pos e, e]
                have e1 : fw0 vs i k = 0 := by unfold fw0 bt; rw [hb]; rfl
                have e2 : fwP vs i k k = 0 := by unfold fwP; rw [if_neg (Nat.lt_irrefl _)]
                rw [e1, e2]
              · rw [if_neg e])]
            exact HR.out.ext hw1
          · obtain ⟨d0, z0, _⟩ := hrow.storeAt (rowL_at (f := fwP vs i k) hlt)
            clear hrow
            go_wp2_with (go_at_call 201; refine (beats_spec _ _ _ _ _ _ _ (hRr.ext (by repeat (first | exact Ext.refl _ | assumption | refine Ext.alloc ?_ _ | refine Ext.drew ?_ | refine Ext.trans ?_ (by assumption)))) HS.out).mono ?_; rintro e w1 ⟨rfl, hw1⟩; have r0 := Ext.keep (w' := w1) (by repeat (first | exact Ext.refl _ | assumption | refine Ext.alloc ?_ _ | refine Ext.drew ?_ | refine Ext.trans ?_ (by assumption))) r0; have r1 := Ext.keep (w' := w1) (by repeat (first | exact Ext.refl _ | assumption | refine Ext.alloc ?_ _ | refine Ext.drew ?_ | refine Ext.trans ?_ (by assumption))) r1; have d0 := Ext.keep (w' := w1) (by repeat (first | exact Ext.refl _ | assumption | refine Ext.alloc ?_ _ | refine Ext.drew ?_ | refine Ext.trans ?_ (by assumption))) d0)
            refine (pairI_spec _ n a c vs i k (hRr.ext (by repeat (first | exact Ext.refl _ | assumption | refine Ext.alloc ?_ _ | refine Ext.drew ?_ | refine Ext.trans ?_ (by assumption)))) HS.out).mono ?_
            rintro e w2 ⟨rfl, hw2⟩
            have hE2 : Ext wr w2 := (by repeat (first | exact Ext.refl _ | assumption | refine Ext.alloc ?_ _ | refine Ext.drew ?_ | refine Ext.trans ?_ (by assumption)))
            have d0 := hw2.keep d0
            have z0 : w2.frozen? ⟨wo.heap.size, k, none⟩ = false := (hE2.frozenS _ (by rw [(HR.out.storeAt (rowL_at (f := fwP vs i k) hlt)).1]; rfl)).trans z0
            go_wp2
            refine ⟨⟨k + 1, by omega, by go_num, ?_, Ext.setCell (hwr'.trans hE2) (Nat.le_refl _) _⟩, by simp [intOf]; omega⟩
            have hst := ((HR.out.ext hE2).storeAt (rowL_at (f := fwP vs i k) hlt)).2.2 (pairV vs i k)
            rw [rowL_set (g := fwP vs i (k + 1)) (fun j _ => by
              rw [fwP_next]
              by_cases e : j = k
              · rw [if_pos e, if_pos e]; unfold fw0 bt; rw [hb]; rfl
              · rw [if_neg e, if_neg e])] at hst
            exact hst
        · have hkn : k = n := by omega
          rw [hkn, fwP_all] at hrow
          go_wp2_with (at_builtin; refine wpList_appS wb wo _ rfl _ _ rfl _ (tabTo n i (fw0 vs)) _ _ rfl (by exact hown) hwr hwr' (by exact hrow) rfl (by omega) ?_; intro v' w3 hown3 hw3)
          exact ⟨⟨i + 1, by omega, by go_num, by rw [tabTo_succ]; exact hown3, hw3⟩, by simp [intOf]; omega⟩
    · have hin : i = n := by omega
      rw [hin, tabTo_n] at hown
      obtain ⟨av, cv, hv, hcv, ho⟩ := hown.wr
      obtain ⟨g, us, rfl, hM⟩ := ho (by intro e; have := tabL_len n (fw0 vs); rw [e] at this; simp at this; omega)
      rw [tabL_len] at hv hcv hM
      subst hv
      have hM := hM.congr (rows' := fun o => rowL n (fwK n (fw0 vs) 0 o)) (fun o ho => by simp only [List.getD, tabL_at ho, fwK, Option.getD_some])
      clear hown htl hin
      have HM := hide hM
      clear hM ho
      go_wp2_with fail
      go_loopw [7, 8, 9, 46, 49, 50, 51, 54, 55, 56] (fun _ _ _ i _ _ _ _ _ _ wr => ∃ k : Nat, k ≤ n ∧ i = .int .i64 k ∧ Hid (Mat wr wb.heap.size g n us (fun o => rowL n (fwK n (fw0 vs) k o))) ∧ Ext wb wr) (fun _ _ _ i _ _ _ _ _ _ _ => n - (intOf i).toNat)
      case atStart => exact ⟨0, Nat.zero_le _, rfl, HM, hwr⟩
      case round =>
        clear HM hwr
        obtain ⟨k, hk, rfl, HM, hwr⟩ := hrel
        by_cases hkt : k < n
        · go_wp2
          go_loopw [8, 9, 51, 54, 55, 56] (fun _ _ i _ _ _ wr => ∃ x : Nat, x ≤ n ∧ i = .int .i64 x ∧ Hid (Mat wr wb.heap.size g n us (fun o => rowL n (fwA n (fwK n (fw0 vs) k) k x o))) ∧ Ext wb wr) (fun _ _ i _ _ _ _ => n - (intOf i).toNat)
          case atStart => exact ⟨0, Nat.zero_le _, rfl, HM, hwr⟩
          case round =>
            clear HM hwr
            obtain ⟨x, hx, rfl, HM, hwr⟩ := hrel
            by_cases hxt : x < n
            · go_wp2
              go_loopw [9, 56] (fun _ i wr => ∃ y : Nat, y ≤ n ∧ i = .int .i64 y ∧ Hid (Mat wr wb.heap.size g n us (fun o => rowL n (fwB (fwA n (fwK n (fw0 vs) k) k x) k x y o))) ∧ Ext wb wr) (fun _ i _ => n - (intOf i).toNat)
              case atStart => exact ⟨0, Nat.zero_le _, rfl, HM, hwr⟩
              case round =>
                clear HM hwr
                obtain ⟨y, hy, rfl, HM, hwr⟩ := hrel
                by_cases hyt : y < n
                · obtain ⟨M, hM⟩ : ∃ M, M = fwB (fwA n (fwK n (fw0 vs) k) k x) k x y := ⟨_, rfl⟩
                  have HE := hide (show fwB (fwA n (fwK n (fw0 vs) k) k x) k x (y + 1) = fw1 M k x y by rw [hM]; rfl)
                  rw [← hM] at HM
                  clear hM
                  by_cases e : x = y
                  · have e' : (x : Int) = (y : Int) := by omega
                    go_wp2
                    refine ⟨⟨y + 1, by omega, by go_num, ?_, hwr⟩, by simp [intOf]; omega⟩
                    rw [HE.out, e, fw1_same]; exact HM
                  · have e' : ¬ (x : Int) = (y : Int) := by omega
                    obtain ⟨ba, ca, bk, ck, d0, d1, d2, d3, d4, z0, hbl, hnx⟩ := HM.out.three hxt hyt hkt
                    have HN := hide hnx
                    clear hnx
                    go_wp2
                    refine wp_region_X (by kernel_rfl) (by kernel_rfl) ?_
                    repeat' (refine wpX_stepQ (fun K hK => ?_)
                             go_simp
                             try (rw [if_neg (by intro h; simp [undef] at h)])
                             try split
                             all_goals
                               first
                               | (refine hK _ ?_
                                  clear hK K)
                               | (apply Exists.intro
                                  refine ⟨fun wq hwq => ?_, hK _ ?_⟩
                                  · have hcq := hwq.cellS
                                    go_simp
                                    first
                                    | exact ⟨Ext.refl _, rfl⟩
                                  clear hK K))
                    all_goals
                      refine wpX_stepL rfl (by kernel_rfl) (by kernel_rfl) (by kernel_rfl) (fun K hK wz hwz => ?_)
                      have hcz := hwz.cellS
                      have hfz := hwz.frozenS
                      go_simp
                      refine hK _ _ ?_
                      clear hK K
                      go_wp2
                      refine ⟨⟨y + 1, by omega, by go_num, by rw [HE.out]; exact HN.out wz _ (show Ext wr wz from (by repeat (first | exact Ext.refl _ | assumption | refine Ext.alloc ?_ _ | refine Ext.drew ?_ | refine Ext.trans ?_ (by assumption)))) e (by omega), Ext.setCell (hwr.trans (by repeat (first | exact Ext.refl _ | assumption | refine Ext.alloc ?_ _ | refine Ext.drew ?_ | refine Ext.trans ?_ (by assumption)))) hbl _⟩, by simp [intOf]; omega⟩
                · have hyn : y = n := by omega
                  rw [hyn] at HM
                  go_wp2
                  exact ⟨⟨x + 1, by omega, by go_num, HM, hwr⟩, by simp [intOf]; omega⟩
            · have hxn : x = n := by omega
              rw [hxn] at HM
              go_wp2
              exact ⟨⟨k + 1, by omega, by go_num, HM, hwr⟩, by simp [intOf]; omega⟩
        · have hkn : k = n := by omega
          rw [hkn] at HM
          go_wp2
          go_ret
          refine ⟨_, rfl, ?_, hw.trans hwr⟩
          have h2 := (HM.out.wr (c := cv) hcv).base hw.size
          simpa [pthO, h0, tabL, pthV] using h2

def bldR (vs : List Vt) (n i m o : Nat) : List Int := if o < i then rowL n (fw0 vs o) else if o = i then rowL n (fwP vs i m) else []
def bldS (vs : List Vt) (n i o : Nat) : List Int := if o < i then rowL n (fw0 vs o) else []

set_option maxRecDepth 100000 in
set_option maxHeartbeats 8000000 in
theorem pth_impl (w : World) (sz : Int) (a : Option Addr) (c : Nat) (vs : List Vt) (hR : RdV w a vs) :
    Calls Tryz.prog 102 #[.agg #[.int .i64 sz, .slice a vs.length c]] w fun e w' => ∃ v, e = .returned v ∧ WrSS w' w.heap.size v (pthO sz vs) ∧ Ext w w' := by
  have q0 := new0 w (.int .i64 sz) [.slice a vs.length c] 29
  have q1 := new1 w (.int .i64 sz) (.slice a vs.length c) [] 29
  cases h0 : profOk sz vs
  · go_enter Tryz.func102, Tryz.ntmps102
    go_wp2_with (go_at_call 36; refine (prof_impl _ _ _ _ _ (hR.ext (by repeat (first | exact Ext.refl _ | assumption | refine Ext.alloc ?_ _ | refine Ext.drew ?_ | refine Ext.trans ?_ (by assumption))))).mono ?_; rintro e w1 ⟨rfl, hw1⟩; have q0 := Ext.keep (w' := w1) (by repeat (first | exact Ext.refl _ | assumption | refine Ext.alloc ?_ _ | refine Ext.drew ?_ | refine Ext.trans ?_ (by assumption))) q0; have q1 := Ext.keep (w' := w1) (by repeat (first | exact Ext.refl _ | assumption | refine Ext.alloc ?_ _ | refine Ext.drew ?_ | refine Ext.trans ?_ (by assumption))) q1)
    go_ret
    exact ⟨_, rfl, by simp [pthO, h0]; exact WrSS.nil _ _ _ _, (by repeat (first | exact Ext.refl _ | assumption | refine Ext.alloc ?_ _ | refine Ext.drew ?_ | refine Ext.trans ?_ (by assumption)))⟩
  obtain ⟨n, rfl, n1, n2⟩ := prof_nat h0
  have HS := hide (prof_small h0)
  obtain ⟨i0, hi, hz0, hz1, hz2⟩ := info_parts info_int
  have hmk := fun W => run_make_rowN (P := Tryz.prog) 36 3 i0 _ Tryz.underlying36 hi hz0 .i64 .i64 n n (Nat.le_refl _) (by rw [hz2]; omega) (by omega) W
  rw [hz1, Nat.mul_one] at hmk
  obtain ⟨j0, hj, hy0, hy1, hy2⟩ := info_parts info_row
  have hmk2 := fun W => run_make_rowN (P := Tryz.prog) 93 36 j0 _ Tryz.underlying93 hj hy0 .i64 .i64 n n (Nat.le_refl _) (by rw [hy2]; omega) (by omega) W
  rw [hy1, Nat.mul_one] at hmk2
  go_enter Tryz.func102, Tryz.ntmps102
  go_wp2_with (go_at_call 36; refine (prof_impl _ _ _ _ _ (hR.ext (by repeat (first | exact Ext.refl _ | assumption | refine Ext.alloc ?_ _ | refine Ext.drew ?_ | refine Ext.trans ?_ (by assumption))))).mono ?_; rintro e w1 ⟨rfl, hw1⟩; have q0 := Ext.keep (w' := w1) (by repeat (first | exact Ext.refl _ | assumption | refine Ext.alloc ?_ _ | refine Ext.drew ?_ | refine Ext.trans ?_ (by assumption))) q0; have q1 := Ext.keep (w' := w1) (by repeat (first | exact Ext.refl _ | assumption | refine Ext.alloc ?_ _ | refine Ext.drew ?_ | refine Ext.trans ?_ (by assumption))) q1)
  clear hmk2
  have hw : Ext w w1 := (by repeat (first | exact Ext.refl _ | assumption | refine Ext.alloc ?_ _ | refine Ext.drew ?_ | refine Ext.trans ?_ (by assumption)))
  have hR0 := hR.ext hw
  have hM := Mat.made w1 n
  have h20 := Ext.new w1 (.cells (madeCells #[.slice none 0 0] n) 36)
  generalize w1.alloc (.cells (madeCells #[.slice none 0 0] n) 36) = W0 at hM h20 ⊢
  obtain ⟨wb, hwb⟩ : ∃ wb : World, wb = w1 := ⟨_, rfl⟩
  subst hwb
  obtain ⟨g, hg⟩ : ∃ g : Nat, g = wb.heap.size := ⟨_, rfl⟩
  have hgg : wb.heap.size ≤ g := by omega
  rw [← hg] at hM ⊢
  have hM : Mat W0 wb.heap.size g n (fun _ => .slice none 0 0) (fun _ => []) := by rw [hg] at hM ⊢; exact hM
  clear hg
  go_loopw [4, 5, 17, 27, 28] (fun _ _ i _ _ wr => ∃ (k : Nat) (us : Nat → Value), k ≤ n ∧ i = .int .i64 k ∧ Hid (Mat wr wb.heap.size g n us (bldS vs n k)) ∧ Ext wb wr) (fun _ _ i _ _ _ => n - (intOf i).toNat)
  case atStart => exact ⟨0, _, Nat.zero_le _, rfl, hM.congr (fun o _ => by unfold bldS; rw [if_neg (by omega)]), h20⟩
  case round =>
    clear hM h20
    obtain ⟨i, us, hi, rfl, HM, hwr⟩ := hrel
    have r0 := hwr.keep q0
    by_cases hit : i < n
    · have hO := OwnI.made wr n (by omega)
      have hgl := HM.out.outer.lt
      have hM2 := HM.out.put (w' := wr.alloc (.cells (madeCells #[.int .i64 0] n) 3)) hit (World.grownBy_alloc wr _ none) (fun k h => by cases h) (hO.base (Nat.le_trans hgg (Nat.le_of_lt hgl))) (fun k hk => by
        simp only [Value.ownBlock, Option.some.injEq] at hk
        refine ⟨by omega, fun o ho _ e => ?_⟩
        have := (World.ownsRow.lt (HM.out.row o ho) k e).2
        omega)
      have hM3 := hM2.congr (rows' := bldR vs n i 0) (fun o ho => by
        unfold bldR bldS
        by_cases e : o = i
        · subst e; rw [if_pos rfl, if_neg (by omega), if_pos rfl, fwP_zero]
        · rw [if_neg e, if_neg e])
      have hE3 : Ext wb ((wr.alloc (.cells (madeCells #[.int .i64 0] n) 3)).setCell ⟨g, i, none⟩ (.slice (some ⟨wr.heap.size, 0, none⟩) n n)) := Ext.setCell (hwr.trans (Ext.new wr _)) hgg _
      rw [World.setCell_alloc_past _ _ _ _ hgl] at hM3 hE3
      have HM3 := hide hM3
      have r1 := hE3.keep q0
      have d0 := HM.out.outer.cell i hit
      have z0 := HM.out.outer.fr i
      clear hM2 hM3 hO HM
      go_wp2
      clear r1
      generalize (wr.setCell ⟨g, i, none⟩ (.slice (some ⟨wr.heap.size, 0, none⟩) n n)).alloc (.cells (madeCells #[.int .i64 0] n) 3) = W1 at HM3 hE3 ⊢
      generalize (fun o => if o = i then Value.slice (some ⟨wr.heap.size, 0, none⟩) n n else us o) = us1 at HM3
      clear d0 z0 hwr r0
      go_loopw [5, 28] (fun _ m wr => ∃ k : Nat, k ≤ n ∧ m = .int .i64 k ∧ Hid (Mat wr wb.heap.size g n us1 (bldR vs n i k)) ∧ Ext wb wr) (fun _ m _ => n - (intOf m).toNat)
      case atStart => exact ⟨0, Nat.zero_le _, rfl, HM3, hE3⟩
      case round =>
        clear HM3 hE3
        obtain ⟨m, hm, rfl, HM, hwr⟩ := hrel
        have r0 := hwr.keep q0
        have r1 := hwr.keep q1
        have hRr := hR0.ext hwr
        by_cases hlt : m < n
        · cases hb : beatsV vs i m
          · go_wp2_with (go_at_call 93; refine (beats_impl _ _ _ _ _ _ _ (hRr.ext (by repeat (first | exact Ext.refl _ | assumption | refine Ext.alloc ?_ _ | refine Ext.drew ?_ | refine Ext.trans ?_ (by assumption)))) HS.out).mono ?_; rintro e w1 ⟨rfl, hw1⟩)
            refine ⟨⟨m + 1, by omega, by go_num, ?_, (by repeat (first | exact Ext.refl _ | assumption | refine Ext.alloc ?_ _ | refine Ext.drew ?_ | refine Ext.trans ?_ (by assumption)))⟩, by simp [intOf]; omega⟩
            refine (HM.out.ext hw1).congr (fun o _ => ?_)
            unfold bldR
            by_cases e : o < i
            · rw [if_pos e, if_pos e]
            · rw [if_neg e, if_neg e]
              by_cases e2 : o = i
              · rw [if_pos e2, if_pos e2]
                refine rowL_congr (fun j _ => ?_)
                rw [fwP_next]
                by_cases e3 : j = m
                · rw [if_pos e3, e3]
                  have e1 : fw0 vs i m = 0 := by unfold fw0 bt; rw [hb]; rfl
                  have e4 : fwP vs i m m = 0 := by unfold fwP; rw [if_neg (Nat.lt_irrefl _)]
                  rw [e1, e4]
                · rw [if_neg e3]
              · rw [if_neg e2, if_neg e2]
          · have hri : bldR vs n i m i = rowL n (fwP vs i m) := by unfold bldR; rw [if_neg (by omega), if_pos rfl]
            obtain ⟨ba, ca, hua⟩ := HM.out.form hit (by rw [hri, rowL_len]; omega)
            rw [hri, rowL_len] at hua
            have hx := rowL_at (f := fwP vs i m) hlt
            rw [← hri] at hx
            obtain ⟨d1, z1, hbl⟩ := HM.out.read hit hx hua
            have d0 := HM.out.outer.cell i hit
            rw [hua] at d0
            have HX := hide hx
            have HU := hide hua
            have HRI := hide hri
            clear hx hua hri
            go_wp2_with (go_at_call 93; refine (beats_impl _ _ _ _ _ _ _ (hRr.ext (by repeat (first | exact Ext.refl _ | assumption | refine Ext.alloc ?_ _ | refine Ext.drew ?_ | refine Ext.trans ?_ (by assumption)))) HS.out).mono ?_; rintro e w1 ⟨rfl, hw1⟩; have r0 := Ext.keep (w' := w1) (by repeat (first | exact Ext.refl _ | assumption | refine Ext.alloc ?_ _ | refine Ext.drew ?_ | refine Ext.trans ?_ (by assumption))) r0; have r1 := Ext.keep (w' := w1) (by repeat (first | exact Ext.refl _ | assumption | refine Ext.alloc ?_ _ | refine Ext.drew ?_ | refine Ext.trans ?_ (by assumption))) r1; have d0 := Ext.keep (w' := w1) (by repeat (first | exact Ext.refl _ | assumption | refine Ext.alloc ?_ _ | refine Ext.drew ?_ | refine Ext.trans ?_ (by assumption))) d0; have d1 := Ext.keep (w' := w1) (by repeat (first | exact Ext.refl _ | assumption | refine Ext.alloc ?_ _ | refine Ext.drew ?_ | refine Ext.trans ?_ (by assumption))) d1)
            have z1 : w1.frozen? ⟨ba, m, none⟩ = false := (hw1.frozenS _ (by rw [(HM.out.read hit HX.out HU.out).1]; rfl)).trans z1
            have HMw := hide (HM.out.ext hw1)
            have hwr := hwr.trans hw1
            refine wp_region_X (by kernel_rfl) (by kernel_rfl) ?_
            repeat' (refine wpX_stepQ (fun K hK => ?_)
                     go_simp
                     try (rw [if_neg (by intro h; simp [undef] at h)])
                     try split
                     all_goals
                       first
                       | (refine hK _ ?_
                          clear hK K)
                       | (apply Exists.intro
                          refine ⟨fun wq hwq => ?_, hK _ ?_⟩
                          · have hcq := hwq.cellS
                            go_simp
                            first
                            | exact ⟨Ext.refl _, rfl⟩
                            | exact ⟨Ext.refl _, pairI_impl _ _ _ _ _ _ _ (hRr.ext (by repeat (first | exact Ext.refl _ | assumption | refine Ext.alloc ?_ _ | refine Ext.drew ?_ | refine Ext.trans ?_ (by assumption)))) HS.out⟩
                          clear hK K))
            refine wpX_stepL rfl (by kernel_rfl) (by kernel_rfl) (by kernel_rfl) (fun K hK wz hwz => ?_)
            have hcz := hwz.cellS
            have hfz := hwz.frozenS
            go_simp
            refine hK _ _ ?_
            clear hK K
            go_wp2
            refine ⟨⟨m + 1, by omega, by go_num, ?_, Ext.setCell (hwr.trans hwz) hbl _⟩, by simp [intOf]; omega⟩
            refine ((HMw.out.ext hwz).set hit HX.out HU.out (pairV vs i m)).congr (fun o _ => ?_)
            by_cases e2 : o = i
            · subst e2
              rw [if_pos rfl, HRI.out]
              unfold bldR
              rw [if_neg (by omega), if_pos rfl]
              refine rowL_set (fun j _ => ?_)
              rw [fwP_next]
              by_cases e3 : j = m
              · rw [if_pos e3, if_pos e3]; unfold fw0 bt; rw [hb]; rfl
              · rw [if_neg e3, if_neg e3]
            · rw [if_neg e2]
              unfold bldR
              by_cases e : o < i
              · rw [if_pos e, if_pos e]
              · rw [if_neg e, if_neg e, if_neg e2, if_neg e2]
        · have hmn : m = n := by omega
          rw [hmn] at HM
          go_wp2
          refine ⟨⟨i + 1, us1, by omega, by go_num, HM.out.congr (fun o _ => ?_), hwr⟩, by simp [intOf]; omega⟩
          unfold bldR bldS
          by_cases e : o < i
          · rw [if_pos e, if_pos (by omega)]
          · by_cases e2 : o = i
            · subst e2; rw [if_neg e, if_pos rfl, if_pos (by omega), fwP_all]
            · rw [if_neg e, if_neg e2, if_neg (by omega)]
    · have hin : i = n := by omega
      have hM := HM.out.congr (rows' := fun o => rowL n (fwK n (fw0 vs) 0 o)) (fun o ho => by unfold bldS; rw [if_pos (by omega)]; rfl)
      clear HM hin r0
      have HM := hide hM
      clear hM
      have r0 := hwr.keep q0
      go_wp2_with fail
      go_loopw [6, 7, 8, 49, 53, 54, 58, 59] (fun _ _ _ i _ _ _ _ wr => ∃ k : Nat, k ≤ n ∧ i = .int .i64 k ∧ Hid (Mat wr wb.heap.size g n us (fun o => rowL n (fwK n (fw0 vs) k o))) ∧ Ext wb wr) (fun _ _ _ i _ _ _ _ _ => n - (intOf i).toNat)
      case atStart => exact ⟨0, Nat.zero_le _, rfl, HM, hwr⟩
      case round =>
        clear HM hwr r0
        obtain ⟨k, hk, rfl, HM, hwr⟩ := hrel
        have r0 := hwr.keep q0
        by_cases hkt : k < n
        · go_wp2
          go_loopw [7, 8, 54, 58, 59] (fun _ _ i _ _ wr => ∃ x : Nat, x ≤ n ∧ i = .int .i64 x ∧ Hid (Mat wr wb.heap.size g n us (fun o => rowL n (fwA n (fwK n (fw0 vs) k) k x o))) ∧ Ext wb wr) (fun _ _ i _ _ _ => n - (intOf i).toNat)
          case atStart => exact ⟨0, Nat.zero_le _, rfl, HM, hwr⟩
          case round =>
            clear HM hwr r0
            obtain ⟨x, hx, rfl, HM, hwr⟩ := hrel
            have r0 := hwr.keep q0
            by_cases hxt : x < n
            · go_wp2
              go_loopw [8, 59] (fun _ i wr => ∃ y : Nat, y ≤ n ∧ i = .int .i64 y ∧ Hid (Mat wr wb.heap.size g n us (fun o => rowL n (fwB (fwA n (fwK n (fw0 vs) k) k x) k x y o))) ∧ Ext wb wr) (fun _ i _ => n - (intOf i).toNat)
              case atStart => exact ⟨0, Nat.zero_le _, rfl, HM, hwr⟩
              case round =>
                clear HM hwr r0
                obtain ⟨y, hy, rfl, HM, hwr⟩ := hrel
                by_cases hyt : y < n
                · obtain ⟨M, hM⟩ : ∃ M, M = fwB (fwA n (fwK n (fw0 vs) k) k x) k x y := ⟨_, rfl⟩
                  have HE := hide (show fwB (fwA n (fwK n (fw0 vs) k) k x) k x (y + 1) = fw1 M k x y by rw [hM]; rfl)
                  rw [← hM] at HM
                  clear hM
                  by_cases e : x = y
                  · have e' : (x : Int) = (y : Int) := by omega
                    go_wp2
                    refine ⟨⟨y + 1, by omega, by go_num, ?_, hwr⟩, by simp [intOf]; omega⟩
                    rw [HE.out, e, fw1_same]; exact HM
                  · have e' : ¬ (x : Int) = (y : Int) := by omega
                    obtain ⟨ba, ca, bk, ck, d0, d1, d2, d3, d4, z0, hbl, hnx⟩ := HM.out.three hxt hyt hkt
                    have HN := hide hnx
                    clear hnx
                    go_wp2
                    refine wp_region_X (by kernel_rfl) (by kernel_rfl) ?_
                    repeat' (refine wpX_stepQ (fun K hK => ?_)
                             go_simp
                             try (rw [if_neg (by intro h; simp [undef] at h)])
                             try split
                             all_goals
                               first
                               | (refine hK _ ?_
                                  clear hK K)
                               | (apply Exists.intro
                                  refine ⟨fun wq hwq => ?_, hK _ ?_⟩
                                  · have hcq := hwq.cellS
                                    go_simp
                                    first
                                    | exact ⟨Ext.refl _, rfl⟩
                                  clear hK K))
                    all_goals
                      refine wpX_stepL rfl (by kernel_rfl) (by kernel_rfl) (by kernel_rfl) (fun K hK wz hwz => ?_)
                      have hcz := hwz.cellS
                      have hfz := hwz.frozenS
                      go_simp
                      refine hK _ _ ?_
                      clear hK K
                      go_wp2
                      refine ⟨⟨y + 1, by omega, by go_num, by rw [HE.out]; exact HN.out wz _ (show Ext wr wz from (by repeat (first | exact Ext.refl _ | assumption | refine Ext.alloc ?_ _ | refine Ext.drew ?_ | refine Ext.trans ?_ (by assumption)))) e (by omega), Ext.setCell (hwr.trans (by repeat (first | exact Ext.refl _ | assumption | refine Ext.alloc ?_ _ | refine Ext.drew ?_ | refine Ext.trans ?_ (by assumption)))) hbl _⟩, by simp [intOf]; omega⟩
                · have hyn : y = n := by omega
                  rw [hyn] at HM
                  go_wp2
                  exact ⟨⟨x + 1, by omega, by go_num, HM, hwr⟩, by simp [intOf]; omega⟩
            · have hxn : x = n := by omega
              rw [hxn] at HM
              go_wp2
              exact ⟨⟨k + 1, by omega, by go_num, HM, hwr⟩, by simp [intOf]; omega⟩
        · have hkn : k = n := by omega
          rw [hkn] at HM
          go_wp2
          go_ret
          refine ⟨_, rfl, ?_, hw.trans hwr⟩
          have h2 := (HM.out.wr (c := n) (Nat.le_refl n)).base hw.size
          simpa [pthO, h0, tabL, pthV] using h2

def schP (n : Nat) (vs : List Vt) (i j : Nat) : Bool := decide (pthV n vs j i ≤ pthV n vs i j)
def schO (sz : Int) (vs : List Vt) : List Int := thoseO sz vs (schP sz.toNat vs)
set_option maxRecDepth 100000 in
theorem schO_len (sz : Int) (vs : List Vt) : (schO sz vs).length ≤ 5 := by
  unfold schO thoseO
  cases h0 : profOk sz vs
  · simp
  · obtain ⟨n, rfl, n1, n2⟩ := prof_nat h0
    have := upL_len n (thoseP n (schP n vs))
    simp; omega

set_option maxRecDepth 100000 in
theorem prof_of {n : Nat} {vs : List Vt} (n1 : 1 ≤ n) (n5 : n ≤ 5) (h : SmallV n vs) : profOk n vs = true := by
  unfold profOk
  rw [inR_iff.2 (show 1 ≤ (n : Int) ∧ (n : Int) ≤ 5 by omega), decide_eq_true h.1, Bool.true_and, Bool.true_and, List.all_eq_true]
  intro x hx
  obtain ⟨h1, h2, h3⟩ := h.2 x hx
  unfold vtOk
  rw [h1, inR_iff.2 ⟨h2, h3⟩]; rfl
set_option maxRecDepth 100000 in
/-- Two cells of a table that faces itself. -/
theorem WrSS.pair {w : World} {B : Nat} {a : Option Addr} {n c : Nat} {M : Nat → Nat → Int} (h : WrSS w B (.slice a n c) (tabL n M)) {i j : Nat} (hi : i < n) (hj : j < n) :
    ∃ g bi ci bj cj oi oj, a = some ⟨g, 0, none⟩ ∧ w.cell? ⟨g, i, none⟩ = some (.slice (some ⟨bi, oi, none⟩) n ci) ∧ w.cell? ⟨g, j, none⟩ = some (.slice (some ⟨bj, oj, none⟩) n cj) ∧
      w.cell? ⟨bi, oi + j, none⟩ = some (.int .i64 (M i j)) ∧ w.cell? ⟨bj, oj + i, none⟩ = some (.int .i64 (M j i)) := by
  obtain ⟨g, c1, ai, ci, e1, h1, _, r1⟩ := h.at_ (tabL_at (M := M) hi)
  obtain ⟨g2, c2, aj, cj, e2, h2, _, r2⟩ := h.at_ (tabL_at (M := M) hj)
  injection e1 with e1
  subst e1
  injection e2 with e2
  injection e2 with e2
  injection e2 with e2
  subst e2
  rw [rowL_len] at h1 h2
  obtain ⟨bi, oi, rfl, d1⟩ := r1.at_ (rowL_at (f := M i) hj)
  obtain ⟨bj, oj, rfl, d2⟩ := r2.at_ (rowL_at (f := M j) hi)
  exact ⟨g, bi, ci, bj, cj, oi, oj, rfl, h1, h2, d1, d2⟩

set_option maxRecDepth 100000 in
set_option maxHeartbeats 1000000 in
theorem schOne (w : World) (gs n i j : Nat) (vs : List Vt) (B : Nat) (a : Option Addr) (c : Nat) (h : WrSS w B (.slice a n c) (tabL n (pthV n vs))) (hg : w.cell? ⟨gs, 0, none⟩ = some (.slice a n c)) (hi : i < n) (hj : j < n) :
    Calls Tryz.prog 104 #[.int .i64 i, .int .i64 j, .pointer (some ⟨gs, 0, none⟩)] w fun e w' => e = .returned (.bool (schP n vs i j)) ∧ Ext w w' := by
  obtain ⟨g, bi, ci, bj, cj, oi, oj, rfl, h1, h2, d1, d2⟩ := h.pair hi hj
  clear h
  go_enter Tryz.func104, Tryz.ntmps104
  go_wp2
  refine wp_region_X (by kernel_rfl) (by kernel_rfl) ?_
  repeat' (refine wpX_stepQ (fun K hK => ?_)
           go_simp
           try (rw [if_neg (by intro h; simp [undef] at h)])
           try split
           all_goals
             first
             | (refine hK _ ?_
                clear hK K)
             | (apply Exists.intro
                refine ⟨fun wq hwq => ?_, hK _ ?_⟩
                · have hcq := hwq.cellS
                  go_simp
                  first
                  | exact ⟨Ext.refl _, rfl⟩
                clear hK K))
  refine wpX_nil (fun wz hwz => ?_)
  go_wp2
  go_ret
  exact ⟨ret_bool (by simp [schP]), (by repeat (first | exact Ext.refl _ | assumption | refine Ext.alloc ?_ _ | refine Ext.drew ?_ | refine Ext.trans ?_ (by assumption)))⟩

set_option maxRecDepth 100000 in
set_option maxHeartbeats 2000000 in
theorem sch_impl (w : World) (sz : Int) (a : Option Addr) (c : Nat) (vs : List Vt) (hR : RdV w a vs) :
    Calls Tryz.prog 50 #[.agg #[.int .i64 sz, .slice a vs.length c]] w fun e w' => ∃ v, e = .returned v ∧ OwnI w' w.heap.size v (schO sz vs) ∧ Ext w w' := by
  have q0 := new0 w (.int .i64 sz) [.slice a vs.length c] 29
  have q1 := new1 w (.int .i64 sz) (.slice a vs.length c) [] 29
  go_enter Tryz.func50, Tryz.ntmps50
  go_wp2_with fail
  refine (pth_impl _ sz a c vs (hR.ext (by repeat (first | exact Ext.refl _ | assumption | refine Ext.alloc ?_ _ | refine Ext.drew ?_ | refine Ext.trans ?_ (by assumption))))).mono ?_
  rintro e w1 ⟨v, rfl, hv, hw1⟩
  have q0 := Ext.keep (w' := w1) (by repeat (first | exact Ext.refl _ | assumption | refine Ext.alloc ?_ _ | refine Ext.drew ?_ | refine Ext.trans ?_ (by assumption))) q0
  have q1 := Ext.keep (w' := w1) (by repeat (first | exact Ext.refl _ | assumption | refine Ext.alloc ?_ _ | refine Ext.drew ?_ | refine Ext.trans ?_ (by assumption))) q1
  have hv0 := hv
  obtain ⟨av, cv, rfl, _, _⟩ := hv
  obtain ⟨L, hL⟩ : ∃ L : Nat, L = (pthO sz vs).length := ⟨_, rfl⟩
  rw [← hL] at hv0 ⊢
  have p0 := new0 w1 (.slice av L cv) [] 93
  have hE : Ext w (w1.alloc (.cells #[.slice av L cv] 93)) := (by repeat (first | exact Ext.refl _ | assumption | refine Ext.alloc ?_ _ | refine Ext.drew ?_ | refine Ext.trans ?_ (by assumption)))
  have HL := hide hL
  clear hL
  go_wp2_with fail
  have q0' := Ext.keep (Ext.new w1 (.cells #[.slice av L cv] 93)) q0
  have q1' := Ext.keep (Ext.new w1 (.cells #[.slice av L cv] 93)) q1
  refine (those_impl 104 #[.pointer (some ⟨w1.heap.size, 0, none⟩)] (schP sz.toNat vs) _ sz a c vs (hR.ext (by repeat (first | exact Ext.refl _ | assumption | refine Ext.alloc ?_ _ | refine Ext.drew ?_ | refine Ext.trans ?_ (by assumption)))) Tryz.call104 (fun n i j w' hn hn5 hS hi hj hw' => ?_)).mono ?_
  · subst hn
    have h0 := prof_of (by omega) hn5 hS
    · have e : pthO n vs = tabL n (pthV n vs) := by simp [pthO, h0]
      have hLn : L = n := by rw [HL.out, e, tabL_len]
      rw [e, hLn] at hv0
      rw [hLn] at p0
      exact schOne w' w1.heap.size n i j vs _ av cv ((hv0.ext (Ext.new w1 _)).ext (by rw [hLn] at hw'; exact hw')) (by rw [hLn] at hw'; exact hw'.keep p0) hi hj
  rintro e w2 ⟨v2, rfl, hv2, hw2⟩
  go_wp2
  go_ret
  exact ⟨_, rfl, hv2.base (Ext.size (by repeat (first | exact Ext.refl _ | assumption | refine Ext.alloc ?_ _ | refine Ext.drew ?_ | refine Ext.trans ?_ (by assumption)))), (by repeat (first | exact Ext.refl _ | assumption | refine Ext.alloc ?_ _ | refine Ext.drew ?_ | refine Ext.trans ?_ (by assumption)))⟩

set_option maxRecDepth 100000 in
theorem sch_those (n : Nat) (vs : List Vt) (i : Nat) : thoseP n (schP n vs) i = allN n (schP n vs i) := by
  have h : (fun j => decide (i = j) || schP n vs i j) = schP n vs i := by
    funext j
    by_cases e : i = j
    · subst e; simp [schP]
    · simp [e]
  unfold thoseP
  rw [h]

set_option maxRecDepth 100000 in
set_option maxHeartbeats 4000000 in
theorem sch_spec (w : World) (sz : Int) (a : Option Addr) (c : Nat) (vs : List Vt) (hR : RdV w a vs) :
    Calls Tryz.prog 186 #[.agg #[.int .i64 sz, .slice a vs.length c]] w fun e w' => ∃ v, e = .returned v ∧ OwnI w' w.heap.size v (schO sz vs) ∧ Ext w w' := by
  have q0 := new0 w (.int .i64 sz) [.slice a vs.length c] 29
  have q1 := new1 w (.int .i64 sz) (.slice a vs.length c) [] 29
  cases h0 : profOk sz vs
  · go_enter Tryz.func186, Tryz.ntmps186
    go_wp2_with (go_at_call 127; refine (prof_spec _ _ _ _ _ (hR.ext (by repeat (first | exact Ext.refl _ | assumption | refine Ext.alloc ?_ _ | refine Ext.drew ?_ | refine Ext.trans ?_ (by assumption))))).mono ?_; rintro e w1 ⟨rfl, hw1⟩; have q0 := Ext.keep (w' := w1) (by repeat (first | exact Ext.refl _ | assumption | refine Ext.alloc ?_ _ | refine Ext.drew ?_ | refine Ext.trans ?_ (by assumption))) q0; have q1 := Ext.keep (w' := w1) (by repeat (first | exact Ext.refl _ | assumption | refine Ext.alloc ?_ _ | refine Ext.drew ?_ | refine Ext.trans ?_ (by assumption))) q1)
    go_ret
    exact ⟨_, rfl, by simp [schO, thoseO, h0]; exact OwnI.nil _ _, (by repeat (first | exact Ext.refl _ | assumption | refine Ext.alloc ?_ _ | refine Ext.drew ?_ | refine Ext.trans ?_ (by assumption)))⟩
  obtain ⟨n, rfl, n1, n2⟩ := prof_nat h0
  have HP : Hid (pthO n vs = tabL n (pthV n vs)) := hide (by simp [pthO, h0])
  go_enter Tryz.func186, Tryz.ntmps186
  go_wp2_with (go_at_call 127; refine (prof_spec _ _ _ _ _ (hR.ext (by repeat (first | exact Ext.refl _ | assumption | refine Ext.alloc ?_ _ | refine Ext.drew ?_ | refine Ext.trans ?_ (by assumption))))).mono ?_; rintro e w1 ⟨rfl, hw1⟩; have q0 := Ext.keep (w' := w1) (by repeat (first | exact Ext.refl _ | assumption | refine Ext.alloc ?_ _ | refine Ext.drew ?_ | refine Ext.trans ?_ (by assumption))) q0; have q1 := Ext.keep (w' := w1) (by repeat (first | exact Ext.refl _ | assumption | refine Ext.alloc ?_ _ | refine Ext.drew ?_ | refine Ext.trans ?_ (by assumption))) q1)
  refine (pth_spec _ n a c vs (hR.ext (by repeat (first | exact Ext.refl _ | assumption | refine Ext.alloc ?_ _ | refine Ext.drew ?_ | refine Ext.trans ?_ (by assumption))))).mono ?_
  rintro e w2 ⟨v, rfl, hv, hw2⟩
  have hw : Ext w w2 := (by repeat (first | exact Ext.refl _ | assumption | refine Ext.alloc ?_ _ | refine Ext.drew ?_ | refine Ext.trans ?_ (by assumption)))
  rw [HP.out] at hv
  have hv0 := hv
  obtain ⟨av, cv, rfl, _, _⟩ := hv
  rw [tabL_len] at hv0 ⊢
  go_wp2_with fail
  have hO := OwnI.made0 w2
  have h20 := Ext.new w2 (.cells #[] 3)
  obtain ⟨wb, hwb⟩ : ∃ wb : World, wb = w2 := ⟨_, rfl⟩
  subst hwb
  generalize wb.alloc (.cells #[] 3) = W0 at hO h20 ⊢
  go_loopw [4, 5, 6, 7, 16, 19, 20, 21] (fun v _ _ _ i _ _ _ wr => ∃ k : Nat, k ≤ n ∧ i = .int .i64 k ∧ OwnI wr wb.heap.size v (upL k (thoseP n (schP n vs))) ∧ Ext wb wr) (fun _ _ _ _ i _ _ _ _ => n - (intOf i).toNat)
  case atStart => exact ⟨0, Nat.zero_le _, rfl, hO, h20⟩
  case round =>
    clear hO h20
    obtain ⟨i, hi, rfl, hown, hwr⟩ := hrel
    have hul := upL_len i (thoseP n (schP n vs))
    by_cases hit : i < n
    · go_wp2_with fail
      obtain ⟨wo, hwo⟩ : ∃ wo : World, wo = wr := ⟨_, rfl⟩
      subst hwo
      go_loopw [6, 7, 21] (fun g _ m wr => ∃ k : Nat, k ≤ n ∧ m = .int .i64 k ∧ g = .bool (allN k (schP n vs i)) ∧ Ext wo wr) (fun _ _ m _ => n - (intOf m).toNat)
      case atStart => exact ⟨0, Nat.zero_le _, rfl, rfl, Ext.refl _⟩
      case round =>
        obtain ⟨m, hm, rfl, rfl, hwr'⟩ := hrel
        by_cases hmt : m < n
        · cases c1 : allN m (schP n vs i)
          · go_wp2
            refine wp_region_X (by kernel_rfl) (by kernel_rfl) ?_
            repeat' (refine wpX_stepQ (fun K hK => ?_)
                     go_simp
                     try (rw [if_neg (by intro h; simp [undef] at h)])
                     try split
                     all_goals
                       first
                       | (refine hK _ ?_
                          clear hK K)
                       | (apply Exists.intro
                          refine ⟨fun wq hwq => ?_, hK _ ?_⟩
                          · have hcq := hwq.cellS
                            go_simp
                            first
                            | exact ⟨Ext.refl _, rfl⟩
                          clear hK K))
            refine wpX_nil (fun wz hwz => ?_)
            go_wp2
            exact ⟨⟨m + 1, by omega, by go_num, by rw [allN_succ, c1]; rfl, (by repeat (first | exact Ext.refl _ | assumption | refine Ext.alloc ?_ _ | refine Ext.drew ?_ | refine Ext.trans ?_ (by assumption)))⟩, by simp [intOf]; omega⟩
          · obtain ⟨g, bi, ci, bj, cj, oi, oj, hav, h1, h2, d1, d2⟩ := (hv0.ext (hwr.trans hwr')).pair hit hmt
            subst hav
            go_wp2
            refine wp_region_X (by kernel_rfl) (by kernel_rfl) ?_
            repeat' (refine wpX_stepQ (fun K hK => ?_)
                     go_simp
                     try (rw [if_neg (by intro h; simp [undef] at h)])
                     try split
                     all_goals
                       first
                       | (refine hK _ ?_
                          clear hK K)
                       | (apply Exists.intro
                          refine ⟨fun wq hwq => ?_, hK _ ?_⟩
                          · have hcq := hwq.cellS
                            go_simp
                            first
                            | exact ⟨Ext.refl _, rfl⟩
                          clear hK K))
            refine wpX_nil (fun wz hwz => ?_)
            go_wp2
            exact ⟨⟨m + 1, by omega, by go_num, by rw [allN_succ, c1]; simp [schP], (by repeat (first | exact Ext.refl _ | assumption | refine Ext.alloc ?_ _ | refine Ext.drew ?_ | refine Ext.trans ?_ (by assumption)))⟩, by simp [intOf]; omega⟩
        · have hmn : m = n := by omega
          have hown := hown.ext hwr'
          have HT : allN m (schP n vs i) = thoseP n (schP n vs) i := by rw [hmn, sch_those]
          rw [HT]
          clear HT
          cases h1 : thoseP n (schP n vs) i
          · go_wp2
            exact ⟨⟨i + 1, by omega, by go_num, by rw [upL_succ, h1]; simpa using hown, (by repeat (first | exact Ext.refl _ | assumption | refine Ext.alloc ?_ _ | refine Ext.drew ?_ | refine Ext.trans ?_ (by assumption)))⟩, by simp [intOf]; omega⟩
          · go_wp2_with (at_builtin; refine wpList_appI wb _ rfl _ _ rfl _ (upL i (thoseP n (schP n vs))) _ rfl (hown.ext (by repeat (first | exact Ext.refl _ | assumption | refine Ext.alloc ?_ _ | refine Ext.drew ?_ | refine Ext.trans ?_ (by assumption)))) (by repeat (first | exact Ext.refl _ | assumption | refine Ext.alloc ?_ _ | refine Ext.drew ?_ | refine Ext.trans ?_ (by assumption))) rfl (by omega) ?_; intro v' w3 hown3 hw3)
            exact ⟨⟨i + 1, by omega, by go_num, by rw [upL_succ, h1]; exact hown3, (by repeat (first | exact Ext.refl _ | assumption | refine Ext.alloc ?_ _ | refine Ext.drew ?_ | refine Ext.trans ?_ (by assumption)))⟩, by simp [intOf]; omega⟩
    · have hin : i = n := by omega
      go_wp2
      go_ret
      refine ⟨_, rfl, ?_, hw.trans hwr⟩
      have he : schO n vs = upL i (thoseP n (schP n vs)) := by simp [schO, thoseO, h0, hin]
      rw [he]
      exact hown.base hw.size

end Go.Proofs.YtilcdnkkabmbfaaGreat
