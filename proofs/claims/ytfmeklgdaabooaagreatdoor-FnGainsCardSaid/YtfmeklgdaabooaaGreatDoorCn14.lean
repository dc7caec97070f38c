/- The winner of Bucklin's rule. Strengths of paths, as tables that are improved cell by cell. Strengths of paths on both sides. Schulze's winners. Who wins by each rule (plain definitions). The winners by paths: there is one (plain law). By each rule somebody wins, and it is a candidate (plain law). -/
import Derived.Test.YtfmeklgdaabooaaGreatDoorCn13
import Derived.Test.YtfmeklgdaabooaaGreatDoorCn5
import Derived.Test.YtfmeklgdaabooaaGreatDoorCn11
import Derived.Test.YtfmeklgdaabooaaGreatDoorCn12
namespace Go.Proofs.YtfmeklgdaabooaaGreatDoor
open Go.RowKit

set_option maxRecDepth 100000 in
theorem rowL_len_le {n m : Nat} {f : Nat → Int} (h : n ≤ m) : (rowL n f).length ≤ m := by rw [rowL_len]; exact h
set_option maxRecDepth 100000 in
theorem best_first {xs : List Int} (h : 1 ≤ xs.length) : ∃ (i : Nat) (r : List Int), bestL xs = (i : Int) :: r ∧ xs[i]? = some (maxL xs) ∧ i < xs.length ∧ ∀ j, j < i → xs[j]? ≠ some (maxL xs) := by
  have h1 := bestT_head (xs := xs) h (Nat.le_refl _)
  rw [bestT_all, List.take_length] at h1
  exact h1

set_option maxRecDepth 100000 in
set_option maxHeartbeats 2000000 in
theorem bukO_impl (w : World) (sz : Int) (a : Option Addr) (c : Nat) (vs : List Vt) (hR : RdV w a vs) :
    Calls Tryz.prog 56 #[.agg #[.int .i64 sz, .slice a vs.length c]] w fun e w' => e = .returned (.int .i64 (bukO sz vs)) ∧ Ext w w' := by
  have q0 := new0 w (.int .i64 sz) [.slice a vs.length c] 26
  have q1 := new1 w (.int .i64 sz) (.slice a vs.length c) [] 26
  cases h0 : profOk sz vs
  · have HL : Hid (levO sz vs = -1) := hide (by simp [levO, h0])
    go_enter Tryz.func56, Tryz.ntmps56
    go_wp2_with fail
    refine (levO_impl _ sz a c vs (hR.ext (by repeat (first | exact Ext.refl _ | assumption | refine Ext.alloc ?_ _ | refine Ext.drew ?_ | refine Ext.trans ?_ (by assumption))))).mono ?_
    rintro e w1 ⟨rfl, hw1⟩
    rw [HL.out]
    go_wp2
    go_ret
    exact ⟨ret_int (by simp [bukO, h0]), (by repeat (first | exact Ext.refl _ | assumption | refine Ext.alloc ?_ _ | refine Ext.drew ?_ | refine Ext.trans ?_ (by assumption)))⟩
  obtain ⟨n, rfl, n1, n2⟩ := prof_nat h0
  have HS := hide (prof_small h0)
  have hlv := levV_le n vs
  have HL : Hid (levO n vs = (levV n vs : Int)) := hide (by simp [levO, h0])
  obtain ⟨i, r, hb, hmx, hil, hmin⟩ := best_first (xs := rowL n (wthV vs (levV n vs))) (by rw [rowL_len]; exact n1)
  have HO : Hid (bukO n vs = i) := hide (by simp only [bukO, h0, if_true, Int.toNat_natCast, hb, List.headD_cons])
  by_cases hz : levV n vs = 0
  · have hi0 : i = 0 := by
      rcases Nat.eq_zero_or_pos i with h | h
      · exact h
      · have hall : ∀ j, j < n → wthV vs 0 j = 0 := fun j hj => by
          rw [← wth_sum HS.out hj 0]; rfl
        exfalso
        refine hmin 0 h ?_
        rw [← hmx, rowL_at (by omega), rowL_at (by rw [rowL_len] at hil; exact hil), hz, hall 0 (by omega), hall i (by rw [rowL_len] at hil; exact hil)]
    have HI := hide hi0
    have HZ := hide hz
    clear hb hmx hil hmin hi0 hz h0
    go_enter Tryz.func56, Tryz.ntmps56
    go_wp2_with fail
    refine (levO_impl _ n a c vs (hR.ext (by repeat (first | exact Ext.refl _ | assumption | refine Ext.alloc ?_ _ | refine Ext.drew ?_ | refine Ext.trans ?_ (by assumption))))).mono ?_
    rintro e w1 ⟨rfl, hw1⟩
    rw [HL.out, HZ.out]
    go_wp2
    go_ret
    exact ⟨ret_int (by rw [HO.out, HI.out]; rfl), (by repeat (first | exact Ext.refl _ | assumption | refine Ext.alloc ?_ _ | refine Ext.drew ?_ | refine Ext.trans ?_ (by assumption)))⟩
  · have hp : ¬ ((levV n vs : Int) < 1) := by omega
    have HB := hide hb
    clear hb hmx hil hmin h0
    go_enter Tryz.func56, Tryz.ntmps56
    go_wp2_with fail
    refine (levO_impl _ n a c vs (hR.ext (by repeat (first | exact Ext.refl _ | assumption | refine Ext.alloc ?_ _ | refine Ext.drew ?_ | refine Ext.trans ?_ (by assumption))))).mono ?_
    rintro e w1 ⟨rfl, hw1⟩
    rw [HL.out]
    have q0 := hw1.keep q0
    have q1 := hw1.keep q1
    go_wp2_with fail
    refine (wth_impl _ n a c vs (levV n vs) (hR.ext (by repeat (first | exact Ext.refl _ | assumption | refine Ext.alloc ?_ _ | refine Ext.drew ?_ | refine Ext.trans ?_ (by assumption)))) HS.out n2).mono ?_
    rintro e w3 ⟨v, rfl, hv, hw3⟩
    obtain ⟨av, cv, rfl, _, hRv, _⟩ := hv.fr
    go_wp2_with fail
    refine (gr_impl _ av cv _ (hRv.ext (by repeat (first | exact Ext.refl _ | assumption | refine Ext.alloc ?_ _ | refine Ext.drew ?_ | refine Ext.trans ?_ (by assumption)))) (by rw [rowL_len]; omega)).mono ?_
    rintro e w4 ⟨v2, rfl, hv2, hw4⟩
    obtain ⟨a2, c2, rfl, _, _, hR2, _⟩ := hv2.val
    obtain ⟨b3, off3, rfl, d0⟩ := hR2.at_ (k := 0) (x := (i : Int)) (by rw [HB.out]; rfl)
    rw [Nat.add_zero] at d0
    have hbl : 1 ≤ (bestL (rowL n (wthV vs (levV n vs)))).length := by rw [HB.out]; simp
    clear hv hv2 hRv hR2
    go_wp2
    go_ret
    exact ⟨ret_int HO.out.symm, (by repeat (first | exact Ext.refl _ | assumption | refine Ext.alloc ?_ _ | refine Ext.drew ?_ | refine Ext.trans ?_ (by assumption)))⟩

set_option maxRecDepth 100000 in
/-- A cell of the matrix is written whose row is known. -/
theorem Mat.set {w : World} {B g n b m c : Nat} {us : Nat → Value} {rows : Nat → List Int} (h : Mat w B g n us rows) {i j : Nat} {x : Int} (hi : i < n) (hx : (rows i)[j]? = some x) (hu : us i = .slice (some ⟨b, 0, none⟩) m c) (y : Int) :
    Mat (w.setCell ⟨b, j, none⟩ (.int .i64 y)) B g n us (fun o => if o = i then (rows i).set j y else rows o) := by
  obtain ⟨b', c', hv, _, _, _, _, hM⟩ := h.cell hi hx
  rw [hu] at hv
  injection hv with hv
  injection hv with hv
  injection hv with hv
  subst hv
  exact hM y

def fw1 (M : Nat → Nat → Int) (k a b : Nat) : Nat → Nat → Int := fun x y => if x = a ∧ y = b ∧ a ≠ b then max (M a b) (min (M a k) (M k b)) else M x y
def fwB (M : Nat → Nat → Int) (k a : Nat) : Nat → Nat → Nat → Int
  | 0 => M
  | m + 1 => fw1 (fwB M k a m) k a m
def fwA (n : Nat) (M : Nat → Nat → Int) (k : Nat) : Nat → Nat → Nat → Int
  | 0 => M
  | i + 1 => fwB (fwA n M k i) k i n
def fwK (n : Nat) (M : Nat → Nat → Int) : Nat → Nat → Nat → Int
  | 0 => M
  | k + 1 => fwA n (fwK n M k) k n
def fw0 (vs : List Vt) (a b : Nat) : Int := if bt vs a b then pairV vs a b else 0
def pthV (n : Nat) (vs : List Vt) : Nat → Nat → Int := fwK n (fw0 vs) n
def pthO (sz : Int) (vs : List Vt) : List (List Int) := if profOk sz vs then tabL sz.toNat (pthV sz.toNat vs) else []
set_option maxRecDepth 100000 in
theorem pthO_bd (sz : Int) (vs : List Vt) : (pthO sz vs).length ≤ 1000 ∧ ∀ x ∈ pthO sz vs, x.length ≤ 100 := by
  unfold pthO
  cases h0 : profOk sz vs
  · simp
  · obtain ⟨n, rfl, n1, n2⟩ := prof_nat h0
    simpa using tabL_bd n2
set_option maxRecDepth 100000 in
theorem fw1_same (M : Nat → Nat → Int) (k a : Nat) : fw1 M k a a = M := by
  funext x y; unfold fw1; rw [if_neg (fun h => h.2.2 rfl)]
set_option maxRecDepth 100000 in
theorem fw1_row {n : Nat} (M : Nat → Nat → Int) {k a b : Nat} (hne : a ≠ b) (o : Nat) :
    (if o = a then (rowL n (M a)).set b (max (M a b) (min (M a k) (M k b))) else rowL n (M o)) = rowL n (fw1 M k a b o) := by
  by_cases e : o = a
  · subst e
    rw [if_pos rfl]
    refine rowL_set (fun j _ => ?_)
    unfold fw1
    by_cases e2 : j = b
    · subst e2; rw [if_pos ⟨rfl, rfl, hne⟩, if_pos rfl]
    · rw [if_neg (fun h => e2 h.2.1), if_neg e2]
  · rw [if_neg e]
    refine rowL_congr (fun j _ => ?_)
    unfold fw1
    rw [if_neg (fun h => e h.1)]

set_option maxRecDepth 100000 in
theorem Mat.form {w : World} {B g n : Nat} {us : Nat → Value} {rows : Nat → List Int} (h : Mat w B g n us rows) {i : Nat} (hi : i < n) (hne : 1 ≤ (rows i).length) : ∃ b c, us i = .slice (some ⟨b, 0, none⟩) (rows i).length c := by
  obtain ⟨x, hx⟩ := at_of_lt (xs := rows i) (k := 0) hne
  obtain ⟨b, c, hv, _⟩ := h.cell hi hx
  exact ⟨b, c, hv⟩
set_option maxRecDepth 100000 in
theorem Mat.read {w : World} {B g n b m c : Nat} {us : Nat → Value} {rows : Nat → List Int} (h : Mat w B g n us rows) {i j : Nat} {x : Int} (hi : i < n) (hx : (rows i)[j]? = some x) (hu : us i = .slice (some ⟨b, 0, none⟩) m c) :
    w.cell? ⟨b, j, none⟩ = some (.int .i64 x) ∧ w.frozen? ⟨b, j, none⟩ = false ∧ B ≤ b := by
  obtain ⟨b', c', hv, _, hB, h1, h2, _⟩ := h.cell hi hx
  rw [hu] at hv
  injection hv with hv
  injection hv with hv
  injection hv with hv
  subst hv
  exact ⟨h1, h2, hB⟩
set_option maxRecDepth 100000 in
theorem Mat.three {w : World} {B g n : Nat} {us : Nat → Value} {M : Nat → Nat → Int} (h : Mat w B g n us (fun o => rowL n (M o))) {a b k : Nat} (ha : a < n) (hb : b < n) (hk : k < n) :
    ∃ ba ca bk ck, w.cell? ⟨g, a, none⟩ = some (.slice (some ⟨ba, 0, none⟩) n ca) ∧ w.cell? ⟨g, k, none⟩ = some (.slice (some ⟨bk, 0, none⟩) n ck) ∧ w.cell? ⟨ba, b, none⟩ = some (.int .i64 (M a b)) ∧ w.cell? ⟨ba, k, none⟩ = some (.int .i64 (M a k)) ∧
      w.cell? ⟨bk, b, none⟩ = some (.int .i64 (M k b)) ∧ w.frozen? ⟨ba, b, none⟩ = false ∧ B ≤ ba ∧
      ∀ (w' : World) (y : Int), Ext w w' → a ≠ b → y = max (M a b) (min (M a k) (M k b)) → Mat (w'.setCell ⟨ba, b, none⟩ (.int .i64 y)) B g n us (fun o => rowL n (fw1 M k a b o)) := by
  obtain ⟨ba, ca, hua⟩ := h.form ha (by rw [rowL_len]; omega)
  obtain ⟨bk, ck, huk⟩ := h.form hk (by rw [rowL_len]; omega)
  rw [rowL_len] at hua huk
  obtain ⟨h1, h2, h3⟩ := h.read ha (rowL_at (f := M a) hb) hua
  refine ⟨ba, ca, bk, ck, by rw [h.outer.cell a ha, hua], by rw [h.outer.cell k hk, huk], h1, (h.read ha (rowL_at (f := M a) hk) hua).1, (h.read hk (rowL_at (f := M k) hb) huk).1, h2, h3, fun w' y hw hne hy => ?_⟩
  subst hy
  exact ((h.ext hw).set ha (rowL_at (f := M a) hb) hua _).congr (fun o _ => fw1_row M hne o)

def fwP (vs : List Vt) (i m j : Nat) : Int := if j < m then fw0 vs i j else 0
set_option maxRecDepth 100000 in
theorem fwP_all {n : Nat} (vs : List Vt) (i : Nat) : rowL n (fwP vs i n) = rowL n (fw0 vs i) := rowL_congr (fun j hj => by unfold fwP; rw [if_pos hj])
set_option maxRecDepth 100000 in
theorem fwP_zero (vs : List Vt) (i : Nat) : fwP vs i 0 = fun _ => 0 := by funext j; unfold fwP; rw [if_neg (by omega)]
set_option maxRecDepth 100000 in
theorem fwP_next (vs : List Vt) (i m j : Nat) : fwP vs i (m + 1) j = if j = m then fw0 vs i m else fwP vs i m j := by
  unfold fwP
  by_cases e : j = m
  · subst e; rw [if_pos (by omega), if_pos rfl]
  · rw [if_neg e]
    by_cases h : j < m
    · rw [if_pos (by omega), if_pos h]
    · rw [if_neg (by omega), if_neg h]

def bldR (vs : List Vt) (n i m o : Nat) : List Int := if o < i then rowL n (fw0 vs o) else if o = i then rowL n (fwP vs i m) else []
def bldS (vs : List Vt) (n i o : Nat) : List Int := if o < i then rowL n (fw0 vs o) else []

set_option maxRecDepth 100000 in
set_option maxHeartbeats 8000000 in
theorem pth_impl (w : World) (sz : Int) (a : Option Addr) (c : Nat) (vs : List Vt) (hR : RdV w a vs) :
    Calls Tryz.prog 88 #[.agg #[.int .i64 sz, .slice a vs.length c]] w fun e w' => ∃ v, e = .returned v ∧ WrSS w' w.heap.size v (pthO sz vs) ∧ Ext w w' := by
  have q0 := new0 w (.int .i64 sz) [.slice a vs.length c] 26
  have q1 := new1 w (.int .i64 sz) (.slice a vs.length c) [] 26
  cases h0 : profOk sz vs
  · go_enter Tryz.func88, Tryz.ntmps88
    go_wp2_with (go_at_call 25; refine (prof_impl _ _ _ _ _ (hR.ext (by repeat (first | exact Ext.refl _ | assumption | refine Ext.alloc ?_ _ | refine Ext.drew ?_ | refine Ext.trans ?_ (by assumption))))).mono ?_; rintro e w1 ⟨rfl, hw1⟩; have q0 := Ext.keep (w' := w1) (by repeat (first | exact Ext.refl _ | assumption | refine Ext.alloc ?_ _ | refine Ext.drew ?_ | refine Ext.trans ?_ (by assumption))) q0; have q1 := Ext.keep (w' := w1) (by repeat (first | exact Ext.refl _ | assumption | refine Ext.alloc ?_ _ | refine Ext.drew ?_ | refine Ext.trans ?_ (by assumption))) q1)
    go_ret
    exact ⟨_, rfl, by simp [pthO, h0]; exact WrSS.nil _ _ _ _, (by repeat (first | exact Ext.refl _ | assumption | refine Ext.alloc ?_ _ | refine Ext.drew ?_ | refine Ext.trans ?_ (by assumption)))⟩
  obtain ⟨n, rfl, n1, n2⟩ := prof_nat h0
  have HS := hide (prof_small h0)
  obtain ⟨i0, hi, hz0, hz1, hz2⟩ := info_parts info_int
  have hmk := fun W => run_make_rowN (P := Tryz.prog) 28 3 i0 _ Tryz.underlying28 hi hz0 .i64 .i64 n n (Nat.le_refl _) (by rw [hz2]; omega) (by omega) W
  rw [hz1, Nat.mul_one] at hmk
  obtain ⟨j0, hj, hy0, hy1, hy2⟩ := info_parts info_row
  have hmk2 := fun W => run_make_rowN (P := Tryz.prog) 50 28 j0 _ Tryz.underlying50 hj hy0 .i64 .i64 n n (Nat.le_refl _) (by rw [hy2]; omega) (by omega) W
  rw [hy1, Nat.mul_one] at hmk2
  go_enter Tryz.func88, Tryz.ntmps88
  go_wp2_with (go_at_call 25; refine (prof_impl _ _ _ _ _ (hR.ext (by repeat (first | exact Ext.refl _ | assumption | refine Ext.alloc ?_ _ | refine Ext.drew ?_ | refine Ext.trans ?_ (by assumption))))).mono ?_; rintro e w1 ⟨rfl, hw1⟩; have q0 := Ext.keep (w' := w1) (by repeat (first | exact Ext.refl _ | assumption | refine Ext.alloc ?_ _ | refine Ext.drew ?_ | refine Ext.trans ?_ (by assumption))) q0; have q1 := Ext.keep (w' := w1) (by repeat (first | exact Ext.refl _ | assumption | refine Ext.alloc ?_ _ | refine Ext.drew ?_ | refine Ext.trans ?_ (by assumption))) q1)
  clear hmk2
  have hw : Ext w w1 := (by repeat (first | exact Ext.refl _ | assumption | refine Ext.alloc ?_ _ | refine Ext.drew ?_ | refine Ext.trans ?_ (by assumption)))
  have hR0 := hR.ext hw
  have hM := Mat.made w1 n
  have h20 := Ext.new w1 (.cells (madeCells #[.slice none 0 0] n) 28)
  generalize w1.alloc (.cells (madeCells #[.slice none 0 0] n) 28) = W0 at hM h20 ⊢
  obtain ⟨wb, hwb⟩ : ∃ wb : World, wb = w1 := ⟨_, rfl⟩
  subst hwb
  obtain ⟨g, hg⟩ : ∃ g : Nat, g = wb.heap.size := ⟨_, rfl⟩
  have hgg : wb.heap.size ≤ g := by omega
  rw [← hg] at hM ⊢
  have hM : Mat W0 wb.heap.size g n (fun _ => .slice none 0 0) (fun _ => []) := by rw [hg] at hM ⊢; exact hM
  clear hg
  go_loopw [4, 5, 17, 27, 28] (fun _ _ i _ _ wr => ∃ (k : Nat) (us : Nat → Value), k ≤ n ∧ i = .int .i64 k ∧ Hid (Mat wr wb.heap.size g n us (bldS vs n k)) ∧ Ext wb wr) (fun _ _ i _ _ _ => n - (intOf i).toNat)
  case atStart => exact ⟨0, _, Nat.zero_le _, rfl, hM.congr (fun o _ => by unfold bldS; rw [if_neg (by omega)]), h20⟩
  case round =>
    clear hM h20
    obtain ⟨i, us, hi, rfl, HM, hwr⟩ := hrel
    have r0 := hwr.keep q0
    by_cases hit : i < n
    · have hO := OwnI.made wr n (by omega)
      have hgl := HM.out.outer.lt
      have hM2 := HM.out.put (w' := wr.alloc (.cells (madeCells #[.int .i64 0] n) 3)) hit (World.grownBy_alloc wr _ none) (fun k h => by cases h) (hO.base (Nat.le_trans hgg (Nat.le_of_lt hgl))) (fun k hk => by
        simp only [Value.ownBlock, Option.some.injEq] at hk
        refine ⟨by omega, fun o ho _ e => ?_⟩
        have := (World.ownsRow.lt (HM.out.row o ho) k e).2
        omega)
      have hM3 := hM2.congr (rows' := bldR vs n i 0) (fun o ho => by
        unfold bldR bldS
        by_cases e : o = i
        · subst e; rw [if_pos rfl, if_neg (by omega), if_pos rfl, fwP_zero]
        · rw [if_neg e, if_neg e])
      have hE3 : Ext wb ((wr.alloc (.cells (madeCells #[.int .i64 0] n) 3)).setCell ⟨g, i, none⟩ (.slice (some ⟨wr.heap.size, 0, none⟩) n n)) := Ext.setCell (hwr.trans (Ext.new wr _)) hgg _
      rw [World.setCell_alloc_past _ _ _ _ hgl] at hM3 hE3
      have HM3 := hide hM3
      have r1 := hE3.keep q0
      have d0 := HM.out.outer.cell i hit
      have z0 := HM.out.outer.fr i
      clear hM2 hM3 hO HM
      go_wp2
      clear r1
      generalize (wr.setCell ⟨g, i, none⟩ (.slice (some ⟨wr.heap.size, 0, none⟩) n n)).alloc (.cells (madeCells #[.int .i64 0] n) 3) = W1 at HM3 hE3 ⊢
      generalize (fun o => if o = i then Value.slice (some ⟨wr.heap.size, 0, none⟩) n n else us o) = us1 at HM3
      clear d0 z0 hwr r0
      go_loopw [5, 28] (fun _ m wr => ∃ k : Nat, k ≤ n ∧ m = .int .i64 k ∧ Hid (Mat wr wb.heap.size g n us1 (bldR vs n i k)) ∧ Ext wb wr) (fun _ m _ => n - (intOf m).toNat)
      case atStart => exact ⟨0, Nat.zero_le _, rfl, HM3, hE3⟩
      case round =>
        clear HM3 hE3
        obtain ⟨m, hm, rfl, HM, hwr⟩ := hrel
        have r0 := hwr.keep q0
        have r1 := hwr.keep q1
        have hRr := hR0.ext hwr
        by_cases hlt : m < n
        · cases hb : beatsV vs i m
          · go_wp2_with (go_at_call 79; refine (beats_impl _ _ _ _ _ _ _ (hRr.ext (by repeat (first | exact Ext.refl _ | assumption | refine Ext.alloc ?_ _ | refine Ext.drew ?_ | refine Ext.trans ?_ (by assumption)))) HS.out).mono ?_; rintro e w1 ⟨rfl, hw1⟩)
            refine ⟨⟨m + 1, by omega, by go_num, ?_, (by repeat (first | exact Ext.refl _ | assumption | refine Ext.alloc ?_ _ | refine Ext.drew ?_ | refine Ext.trans ?_ (by assumption)))⟩, by simp [intOf]; omega⟩
            refine (HM.out.ext hw1).congr (fun o _ => ?_)
            unfold bldR
            by_cases e : o < i
            · rw [if_pos e, if_pos e]
            · rw [if_neg e, if_neg e]
              by_cases e2 : o = i
              · rw [if_pos e2, if_pos e2]
                refine rowL_congr (fun j _ => ?_)
                rw [fwP_next]
                by_cases e3 : j = m
                · rw [if_pos e3, e3]
                  have e1 : fw0 vs i m = 0 := by unfold fw0 bt; rw [hb]; rfl
                  have e4 : fwP vs i m m = 0 := by unfold fwP; rw [if_neg (Nat.lt_irrefl _)]
                  rw [e1, e4]
                · rw [if_neg e3]
              · rw [if_neg e2, if_neg e2]
          · have hri : bldR vs n i m i = rowL n (fwP vs i m) := by unfold bldR; rw [if_neg (by omega), if_pos rfl]
            obtain ⟨ba, ca, hua⟩ := HM.out.form hit (by rw [hri, rowL_len]; omega)
            rw [hri, rowL_len] at hua
            have hx := rowL_at (f := fwP vs i m) hlt
            rw [← hri] at hx
            obtain ⟨d1, z1, hbl⟩ := HM.out.read hit hx hua
            have d0 := HM.out.outer.cell i hit
            rw [hua] at d0
            have HX := hide hx
            have HU := hide hua
            have HRI := hide hri
            clear hx hua hri
            go_wp2_with (go_at_call 79; refine (beats_impl _ _ _ _ _ _ _ (hRr.ext (by repeat (first | exact Ext.refl _ | assumption | refine Ext.alloc ?_ _ | refine Ext.drew ?_ | refine Ext.trans ?_ (by assumption)))) HS.out).mono ?_; rintro e w1 ⟨rfl, hw1⟩; have r0 := Ext.keep (w' := w1) (by repeat (first | exact Ext.refl _ | assumption | refine Ext.alloc ?_ _ | refine Ext.drew ?_ | refine Ext.trans ?_ (by assumption))) r0; have r1 := Ext.keep (w' := w1) (by repeat (first | exact Ext.refl _ | assumption | refine Ext.alloc ?_ _ | refine Ext.drew ?_ | refine Ext.trans ?_ (by assumption))) r1; have d0 := Ext.keep (w' := w1) (by repeat (first | exact Ext.refl _ | assumption | refine Ext.alloc ?_ _ | refine Ext.drew ?_ | refine Ext.trans ?_ (by assumption))) d0; have d1 := Ext.keep (w' := w1) (by repeat (first | exact Ext.refl _ | assumption | refine Ext.alloc ?_ _ | refine Ext.drew ?_ | refine Ext.trans ?_ (by assumption))) d1)
            have z1 : w1.frozen? ⟨ba, m, none⟩ = false := (hw1.frozenS _ (by rw [(HM.out.read hit HX.out HU.out).1]; rfl)).trans z1
            have HMw := hide (HM.out.ext hw1)
            have hwr := hwr.trans hw1
            refine wp_region_X (by kernel_rfl) (by kernel_rfl) ?_
            repeat' (refine wpX_stepQ (fun K hK => ?_)
                     go_simp
                     try (rw [if_neg (by intro h; simp [undef] at h)])
                     try split
                     all_goals
                       first
                       | (refine hK _ ?_
                          clear hK K)
                       | (apply Exists.intro
                          refine ⟨fun wq hwq => ?_, hK _ ?_⟩
                          · have hcq := hwq.cellS
                            go_simp
                            first
                            | exact ⟨Ext.refl _, rfl⟩
                            | exact ⟨Ext.refl _, pairI_impl _ _ _ _ _ _ _ (hRr.ext (by repeat (first | exact Ext.refl _ | assumption | refine Ext.alloc ?_ _ | refine Ext.drew ?_ | refine Ext.trans ?_ (by assumption)))) HS.out⟩
                          clear hK K))
            refine wpX_stepL rfl (by kernel_rfl) (by kernel_rfl) (by kernel_rfl) (fun K hK wz hwz => ?_)
            have hcz := hwz.cellS
            have hfz := hwz.frozenS
            go_simp
            refine hK _ _ ?_
            clear hK K
            go_wp2
            refine ⟨⟨m + 1, by omega, by go_num, ?_, Ext.setCell (hwr.trans hwz) hbl _⟩, by simp [intOf]; omega⟩
            refine ((HMw.out.ext hwz).set hit HX.out HU.out (pairV vs i m)).congr (fun o _ => ?_)
            by_cases e2 : o = i
            · subst e2
              rw [if_pos rfl, HRI.out]
              unfold bldR
              rw [if_neg (by omega), if_pos rfl]
              refine rowL_set (fun j _ => ?_)
              rw [fwP_next]
              by_cases e3 : j = m
              · rw [if_pos e3, if_pos e3]; unfold fw0 bt; rw [hb]; rfl
              · rw [if_neg e3, if_neg e3]
            · rw [if_neg e2]
              unfold bldR
              by_cases e : o < i
              · rw [if_pos e, if_pos e]
              · rw [if_neg e, if_neg e, if_neg e2, if_neg e2]
        · have hmn : m = n := by omega
          rw [hmn] at HM
          go_wp2
          refine ⟨⟨i + 1, us1, by omega, by go_num, HM.out.congr (fun o _ => ?_), hwr⟩, by simp [intOf]; omega⟩
          unfold bldR bldS
          by_cases e : o < i
          · rw [if_pos e, if_pos (by omega)]
          · by_cases e2 : o = i
            · subst e2; rw [if_neg e, if_pos rfl, if_pos (by omega), fwP_all]
            · rw [if_neg e, if_neg e2, if_neg (by omega)]
    · have hin : i = n := by omega
      have hM := HM.out.congr (rows' := fun o => rowL n (fwK n (fw0 vs) 0 o)) (fun o ho => by unfold bldS; rw [if_pos (by omega)]; rfl)
      clear HM hin r0
      have HM := hide hM
      clear hM
      have r0 := hwr.keep q0
      go_wp2_with fail
      go_loopw [6, 7, 8, 49, 53, 54, 58, 59] (fun _ _ _ i _ _ _ _ wr => ∃ k : Nat, k ≤ n ∧ i = .int .i64 k ∧ Hid (Mat wr wb.heap.size g n us (fun o => rowL n (fwK n (fw0 vs) k o))) ∧ Ext wb wr) (fun _ _ _ i _ _ _ _ _ => n - (intOf i).toNat)
      case atStart => exact ⟨0, Nat.zero_le _, rfl, HM, hwr⟩
      case round =>
        clear HM hwr r0
        obtain ⟨k, hk, rfl, HM, hwr⟩ := hrel
        have r0 := hwr.keep q0
        by_cases hkt : k < n
        · go_wp2
          go_loopw [7, 8, 54, 58, 59] (fun _ _ i _ _ wr => ∃ x : Nat, x ≤ n ∧ i = .int .i64 x ∧ Hid (Mat wr wb.heap.size g n us (fun o => rowL n (fwA n (fwK n (fw0 vs) k) k x o))) ∧ Ext wb wr) (fun _ _ i _ _ _ => n - (intOf i).toNat)
          case atStart => exact ⟨0, Nat.zero_le _, rfl, HM, hwr⟩
          case round =>
            clear HM hwr r0
            obtain ⟨x, hx, rfl, HM, hwr⟩ := hrel
            have r0 := hwr.keep q0
            by_cases hxt : x < n
            · go_wp2
              go_loopw [8, 59] (fun _ i wr => ∃ y : Nat, y ≤ n ∧ i = .int .i64 y ∧ Hid (Mat wr wb.heap.size g n us (fun o => rowL n (fwB (fwA n (fwK n (fw0 vs) k) k x) k x y o))) ∧ Ext wb wr) (fun _ i _ => n - (intOf i).toNat)
              case atStart => exact ⟨0, Nat.zero_le _, rfl, HM, hwr⟩
              case round =>
                clear HM hwr r0
                obtain ⟨y, hy, rfl, HM, hwr⟩ := hrel
                by_cases hyt : y < n
                · obtain ⟨M, hM⟩ : ∃ M, M = fwB (fwA n (fwK n (fw0 vs) k) k x) k x y := ⟨_, rfl⟩
                  have HE := hide (show fwB (fwA n (fwK n (fw0 vs) k) k x) k x (y + 1) = fw1 M k x y by rw [hM]; rfl)
                  rw [← hM] at HM
                  clear hM
                  by_cases e : x = y
                  · have e' : (x : Int) = (y : Int) := by omega
                    go_wp2
                    refine ⟨⟨y + 1, by omega, by go_num, ?_, hwr⟩, by simp [intOf]; omega⟩
                    rw [HE.out, e, fw1_same]; exact HM
                  · have e' : ¬ (x : Int) = (y : Int) := by omega
                    obtain ⟨ba, ca, bk, ck, d0, d1, d2, d3, d4, z0, hbl, hnx⟩ := HM.out.three hxt hyt hkt
                    have HN := hide hnx
                    clear hnx
                    go_wp2
                    refine wp_region_X (by kernel_rfl) (by kernel_rfl) ?_
                    repeat' (refine wpX_stepQ (fun K hK => ?_)
                             go_simp
                             try (rw [if_neg (by intro h; simp [undef] at h)])
                             try split
                             all_goals
                               first
                               | (refine hK _ ?_
                                  clear hK K)
                               | (apply Exists.intro
                                  refine ⟨fun wq hwq => ?_, hK _ ?_⟩
                                  · have hcq := hwq.cellS
                                    go_simp
                                    first
                                    | exact ⟨Ext.refl _, rfl⟩
                                  clear hK K))
                    all_goals
                      refine wpX_stepL rfl (by kernel_rfl) (by kernel_rfl) (by kernel_rfl) (fun K hK wz hwz => ?_)
                      have hcz := hwz.cellS
                      have hfz := hwz.frozenS
                      go_simp
                      refine hK _ _ ?_
                      clear hK K
                      go_wp2
                      refine ⟨⟨y + 1, by omega, by go_num, by rw [HE.out]; exact HN.out wz _ (show Ext wr wz from (by repeat (first | exact Ext.refl _ | assumption | refine Ext.alloc ?_ _ | refine Ext.drew ?_ | refine Ext.trans ?_ (by assumption)))) e (by omega), Ext.setCell (hwr.trans (by repeat (first | exact Ext.refl _ | assumption | refine Ext.alloc ?_ _ | refine Ext.drew ?_ | refine Ext.trans ?_ (by assumption)))) hbl _⟩, by simp [intOf]; omega⟩
                · have hyn : y = n := by omega
                  rw [hyn] at HM
                  go_wp2
                  exact ⟨⟨x + 1, by omega, by go_num, HM, hwr⟩, by simp [intOf]; omega⟩
            · have hxn : x = n := by omega
              rw [hxn] at HM
              go_wp2
              exact ⟨⟨k + 1, by omega, by go_num, HM, hwr⟩, by simp [intOf]; omega⟩
        · have hkn : k = n := by omega
          rw [hkn] at HM
          go_wp2
          go_ret
          refine ⟨_, rfl, ?_, hw.trans hwr⟩
          have h2 := (HM.out.wr (c := n) (Nat.le_refl n)).base hw.size
          simpa [pthO, h0, tabL, pthV] using h2

def schP (n : Nat) (vs : List Vt) (i j : Nat) : Bool := decide (pthV n vs j i ≤ pthV n vs i j)
def schO (sz : Int) (vs : List Vt) : List Int := thoseO sz vs (schP sz.toNat vs)
set_option maxRecDepth 100000 in
theorem schO_len (sz : Int) (vs : List Vt) : (schO sz vs).length ≤ 5 := by
  unfold schO thoseO
  cases h0 : profOk sz vs
  · simp
  · obtain ⟨n, rfl, n1, n2⟩ := prof_nat h0
    have := upL_len n (thoseP n (schP n vs))
    simp; omega

set_option maxRecDepth 100000 in
theorem prof_of {n : Nat} {vs : List Vt} (n1 : 1 ≤ n) (n5 : n ≤ 5) (h : SmallV n vs) : profOk n vs = true := by
  unfold profOk
  rw [inR_iff.2 (show 1 ≤ (n : Int) ∧ (n : Int) ≤ 5 by omega), decide_eq_true h.1, Bool.true_and, Bool.true_and, List.all_eq_true]
  intro x hx
  obtain ⟨h1, h2, h3⟩ := h.2 x hx
  unfold vtOk
  rw [h1, inR_iff.2 ⟨h2, h3⟩]; rfl
set_option maxRecDepth 100000 in
/-- Two cells of a table that faces itself. -/
theorem WrSS.pair {w : World} {B : Nat} {a : Option Addr} {n c : Nat} {M : Nat → Nat → Int} (h : WrSS w B (.slice a n c) (tabL n M)) {i j : Nat} (hi : i < n) (hj : j < n) :
    ∃ g bi ci bj cj oi oj, a = some ⟨g, 0, none⟩ ∧ w.cell? ⟨g, i, none⟩ = some (.slice (some ⟨bi, oi, none⟩) n ci) ∧ w.cell? ⟨g, j, none⟩ = some (.slice (some ⟨bj, oj, none⟩) n cj) ∧
      w.cell? ⟨bi, oi + j, none⟩ = some (.int .i64 (M i j)) ∧ w.cell? ⟨bj, oj + i, none⟩ = some (.int .i64 (M j i)) := by
  obtain ⟨g, c1, ai, ci, e1, h1, _, r1⟩ := h.at_ (tabL_at (M := M) hi)
  obtain ⟨g2, c2, aj, cj, e2, h2, _, r2⟩ := h.at_ (tabL_at (M := M) hj)
  injection e1 with e1
  subst e1
  injection e2 with e2
  injection e2 with e2
  injection e2 with e2
  subst e2
  rw [rowL_len] at h1 h2
  obtain ⟨bi, oi, rfl, d1⟩ := r1.at_ (rowL_at (f := M i) hj)
  obtain ⟨bj, oj, rfl, d2⟩ := r2.at_ (rowL_at (f := M j) hi)
  exact ⟨g, bi, ci, bj, cj, oi, oj, rfl, h1, h2, d1, d2⟩

set_option maxRecDepth 100000 in
set_option maxHeartbeats 1000000 in
theorem schOne (w : World) (gs n i j : Nat) (vs : List Vt) (B : Nat) (a : Option Addr) (c : Nat) (h : WrSS w B (.slice a n c) (tabL n (pthV n vs))) (hg : w.cell? ⟨gs, 0, none⟩ = some (.slice a n c)) (hi : i < n) (hj : j < n) :
    Calls Tryz.prog 90 #[.int .i64 i, .int .i64 j, .pointer (some ⟨gs, 0, none⟩)] w fun e w' => e = .returned (.bool (schP n vs i j)) ∧ Ext w w' := by
  obtain ⟨g, bi, ci, bj, cj, oi, oj, rfl, h1, h2, d1, d2⟩ := h.pair hi hj
  clear h
  go_enter Tryz.func90, Tryz.ntmps90
  go_wp2
  refine wp_region_X (by kernel_rfl) (by kernel_rfl) ?_
  repeat' (refine wpX_stepQ (fun K hK => ?_)
           go_simp
           try (rw [if_neg (by intro h; simp [undef] at h)])
           try split
           all_goals
             first
             | (refine hK _ ?_
                clear hK K)
             | (apply Exists.intro
                refine ⟨fun wq hwq => ?_, hK _ ?_⟩
                · have hcq := hwq.cellS
                  go_simp
                  first
                  | exact ⟨Ext.refl _, rfl⟩
                clear hK K))
  refine wpX_nil (fun wz hwz => ?_)
  go_wp2
  go_ret
  exact ⟨ret_bool (by simp [schP]), (by repeat (first | exact Ext.refl _ | assumption | refine Ext.alloc ?_ _ | refine Ext.drew ?_ | refine Ext.trans ?_ (by assumption)))⟩

set_option maxRecDepth 100000 in
set_option maxHeartbeats 2000000 in
theorem sch_impl (w : World) (sz : Int) (a : Option Addr) (c : Nat) (vs : List Vt) (hR : RdV w a vs) :
    Calls Tryz.prog 57 #[.agg #[.int .i64 sz, .slice a vs.length c]] w fun e w' => ∃ v, e = .returned v ∧ OwnI w' w.heap.size v (schO sz vs) ∧ Ext w w' := by
  have q0 := new0 w (.int .i64 sz) [.slice a vs.length c] 26
  have q1 := new1 w (.int .i64 sz) (.slice a vs.length c) [] 26
  go_enter Tryz.func57, Tryz.ntmps57
  go_wp2_with fail
  refine (pth_impl _ sz a c vs (hR.ext (by repeat (first | exact Ext.refl _ | assumption | refine Ext.alloc ?_ _ | refine Ext.drew ?_ | refine Ext.trans ?_ (by assumption))))).mono ?_
  rintro e w1 ⟨v, rfl, hv, hw1⟩
  have q0 := Ext.keep (w' := w1) (by repeat (first | exact Ext.refl _ | assumption | refine Ext.alloc ?_ _ | refine Ext.drew ?_ | refine Ext.trans ?_ (by assumption))) q0
  have q1 := Ext.keep (w' := w1) (by repeat (first | exact Ext.refl _ | assumption | refine Ext.alloc ?_ _ | refine Ext.drew ?_ | refine Ext.trans ?_ (by assumption))) q1
  have hv0 := hv
  obtain ⟨av, cv, rfl, _, _⟩ := hv
  obtain ⟨L, hL⟩ : ∃ L : Nat, L = (pthO sz vs).length := ⟨_, rfl⟩
  rw [← hL] at hv0 ⊢
  have p0 := new0 w1 (.slice av L cv) [] 50
  have hE : Ext w (w1.alloc (.cells #[.slice av L cv] 50)) := (by repeat (first | exact Ext.refl _ | assumption | refine Ext.alloc ?_ _ | refine Ext.drew ?_ | refine Ext.trans ?_ (by assumption)))
  have HL := hide hL
  clear hL
  go_wp2_with fail
  have q0' := Ext.keep (Ext.new w1 (.cells #[.slice av L cv] 50)) q0
  have q1' := Ext.keep (Ext.new w1 (.cells #[.slice av L cv] 50)) q1
  refine (those_impl 90 #[.pointer (some ⟨w1.heap.size, 0, none⟩)] (schP sz.toNat vs) _ sz a c vs (hR.ext (by repeat (first | exact Ext.refl _ | assumption | refine Ext.alloc ?_ _ | refine Ext.drew ?_ | refine Ext.trans ?_ (by assumption)))) Tryz.call90 (fun n i j w' hn hn5 hS hi hj hw' => ?_)).mono ?_
  · subst hn
    have h0 := prof_of (by omega) hn5 hS
    · have e : pthO n vs = tabL n (pthV n vs) := by simp [pthO, h0]
      have hLn : L = n := by rw [HL.out, e, tabL_len]
      rw [e, hLn] at hv0
      rw [hLn] at p0
      exact schOne w' w1.heap.size n i j vs _ av cv ((hv0.ext (Ext.new w1 _)).ext (by rw [hLn] at hw'; exact hw')) (by rw [hLn] at hw'; exact hw'.keep p0) hi hj
  rintro e w2 ⟨v2, rfl, hv2, hw2⟩
  go_wp2
  go_ret
  exact ⟨_, rfl, hv2.base (Ext.size (by repeat (first | exact Ext.refl _ | assumption | refine Ext.alloc ?_ _ | refine Ext.drew ?_ | refine Ext.trans ?_ (by assumption)))), (by repeat (first | exact Ext.refl _ | assumption | refine Ext.alloc ?_ _ | refine Ext.drew ?_ | refine Ext.trans ?_ (by assumption)))⟩

set_option maxRecDepth 100000 in
theorem sch_those (n : Nat) (vs : List Vt) (i : Nat) : thoseP n (schP n vs) i = allN n (schP n vs i) := by
  have h : (fun j => decide (i = j) || schP n vs i j) = schP n vs i := by
    funext j
    by_cases e : i = j
    · subst e; simp [schP]
    · simp [e]
  unfold thoseP
  rw [h]

/-- The last one of a list, or -1. -/
def lastI (xs : List Int) : Int := xs.getLast?.getD (-1)
/-- Who wins by a rule. -/
noncomputable def winL (rule : Int) (n : Nat) (vs : List Vt) : List Int :=
  if rule = 1 then bestL (rowL n (scoV pluW vs)) else
  if rule = 2 then bestL (rowL n (scoV (borW n) vs)) else
  if rule = 3 then bestL (rowL n (scoV (vetW n) vs)) else
  if rule = 4 then bestL (copeO n vs) else
  if rule = 5 then bestL (maxiO n vs) else
  if rule = 6 then [runO n vs] else
  if rule = 7 then [lastI (elimO n vs (worF vs))] else
  if rule = 8 then [lastI (elimO n vs (worL vs))] else
  if rule = 9 then [lastI (elimO n vs (worP vs))] else
  if rule = 10 then [bukO n vs] else
  if rule = 11 then schO n vs else
  if rule = 12 then (prkO n vs).take 1 else
  if rule = 13 then (kemO n vs).take 1 else []
noncomputable def winO (rule sz : Int) (vs : List Vt) : List Int := if profOk sz vs then winL rule sz.toNat vs else []
noncomputable def winB (rule sz : Int) (vs : List Vt) : Int := (winO rule sz vs).headD (-1)
set_option maxRecDepth 100000 in
theorem len_if {c : Prop} [Decidable c] {xs ys : List Int} (hx : xs.length ≤ 5) (hy : ys.length ≤ 5) : (if c then xs else ys).length ≤ 5 := by split <;> assumption
set_option maxRecDepth 100000 in
theorem winO_len (rule sz : Int) (vs : List Vt) : (winO rule sz vs).length ≤ 5 := by
  unfold winO
  cases h0 : profOk sz vs
  · simp
  · obtain ⟨n, rfl, n1, n2⟩ := prof_nat h0
    have hb : ∀ xs : List Int, (bestL xs).length ≤ xs.length := fun xs => upL_len _ _
    have h1 := hb (rowL n (scoV pluW vs))
    have h2 := hb (rowL n (scoV (borW n) vs))
    have h3 := hb (rowL n (scoV (vetW n) vs))
    have h4 := hb (copeO n vs)
    have h5 := hb (maxiO n vs)
    have h6 := copeO_len n vs
    have h7 := maxiO_len n vs
    have h8 := schO_len n vs
    rw [rowL_len] at h1 h2 h3
    simp only [if_true, Int.toNat_natCast]
    unfold winL
    repeat' (first | exact h8 | apply len_if)
    all_goals first | omega | (simp; done) | (rw [List.length_take]; omega) | (simp; omega)

set_option maxRecDepth 100000 in
theorem allN_at {n : Nat} {p : Nat → Bool} (h : allN n p = true) {k : Nat} (hk : k < n) : p k = true := by
  unfold allN at h
  rw [List.all_eq_true] at h
  exact h k (List.mem_range.2 hk)
/-- Strengths that one may improve: no one of oneself, none negative. -/
structure FwOk (M : Nat → Nat → Int) : Prop where
  diag : ∀ x, M x x = 0
  pos : ∀ x y, 0 ≤ M x y
set_option maxRecDepth 100000 in
theorem fwB_at {M : Nat → Nat → Int} (h : FwOk M) (k a : Nat) : ∀ m x y, fwB M k a m x y = if x = a ∧ y < m ∧ x ≠ y then max (M x y) (min (M x k) (M k y)) else M x y
  | 0, x, y => by simp [fwB]
  | m + 1, x, y => by
    have d1 := h.diag k
    have p1 := h.pos a k
    have p2 := h.pos k m
    have e1 := fwB_at h k a m a m
    have e2 := fwB_at h k a m a k
    have e3 := fwB_at h k a m k m
    have e4 := fwB_at h k a m x y
    rw [if_neg (by omega)] at e1
    have e2' : fwB M k a m a k = M a k := by
      rw [e2]; split
      · rw [d1]; omega
      · rfl
    have e3' : fwB M k a m k m = M k m := by rw [e3, if_neg (by omega)]
    rw [fwB]; unfold fw1
    rw [e1, e2', e3', e4]
    by_cases hx : x = a
    · subst hx
      by_cases hy : y = m
      · subst hy
        by_cases hne : x = y
        · subst hne
          rw [if_neg (by omega), if_neg (by omega), if_neg (by omega)]
        · rw [if_pos ⟨rfl, rfl, hne⟩, if_pos (by omega)]
      · rw [if_neg (by omega)]
        by_cases hc : y < m ∧ x ≠ y
        · rw [if_pos (by omega), if_pos (by omega)]
        · rw [if_neg (by omega), if_neg (by omega)]
    · rw [if_neg (by omega), if_neg (by omega), if_neg (by omega)]
set_option maxRecDepth 100000 in
theorem fwB_ok {M : Nat → Nat → Int} (h : FwOk M) (k a m : Nat) : FwOk (fwB M k a m) := by
  refine ⟨fun x => ?_, fun x y => ?_⟩
  · rw [fwB_at h, if_neg (by omega)]; exact h.diag x
  · rw [fwB_at h]
    have := h.pos x y
    split <;> omega
set_option maxRecDepth 100000 in
theorem fwA_at {n : Nat} {M : Nat → Nat → Int} (h : FwOk M) (k : Nat) : ∀ i x y, fwA n M k i x y = if x < i ∧ y < n ∧ x ≠ y then max (M x y) (min (M x k) (M k y)) else M x y
  | 0, x, y => by simp [fwA]
  | i + 1, x, y => by
    have ih := fwA_at (n := n) h k i
    have hok : FwOk (fwA n M k i) := by
      refine ⟨fun x => ?_, fun x y => ?_⟩
      · rw [ih, if_neg (by omega)]; exact h.diag x
      · rw [ih]
        have := h.pos x y
        split <;> omega
    have d1 := h.diag k
    have p2 := h.pos k y
    have ek : fwA n M k i k y = M k y := by
      rw [ih]; split
      · rw [d1]; omega
      · rfl
    have e : fwA n M k (i + 1) x y = if x = i ∧ y < n ∧ x ≠ y then max (fwA n M k i x y) (min (fwA n M k i x k) (fwA n M k i k y)) else fwA n M k i x y := fwB_at hok k i n x y
    rw [ek] at e
    by_cases hx : x = i
    · have f1 : fwA n M k i x y = M x y := by rw [ih, if_neg (by omega)]
      have f2 : fwA n M k i x k = M x k := by rw [ih, if_neg (by omega)]
      rw [e, f1, f2]
      by_cases hc : y < n ∧ x ≠ y
      · rw [if_pos (by omega), if_pos (by omega)]
      · rw [if_neg (by omega), if_neg (by omega)]
    · rw [e, if_neg (by omega), ih]
      by_cases hc : x < i ∧ y < n ∧ x ≠ y
      · rw [if_pos hc, if_pos (by omega)]
      · rw [if_neg hc, if_neg (by omega)]
/-- Paths through the first k candidates are counted. -/
structure FwTo (n : Nat) (M : Nat → Nat → Int) (k : Nat) : Prop where
  ok : FwOk M
  tri : ∀ i a b, i < k → a < n → b < n → a ≠ b → min (M a i) (M i b) ≤ M a b
set_option maxRecDepth 100000 in
theorem fwA_to {n : Nat} {M : Nat → Nat → Int} {k : Nat} (h : FwTo n M k) (hk : k < n) : FwTo n (fwA n M k n) (k + 1) := by
  have hat := fun x y => fwA_at (n := n) h.ok k n x y
  refine ⟨⟨fun x => ?_, fun x y => ?_⟩, fun i a b hi ha hb hne => ?_⟩
  · rw [hat, if_neg (by omega)]; exact h.ok.diag x
  · rw [hat]
    have := h.ok.pos x y
    split <;> omega
  · have hin : i < n := by omega
    have pak := h.ok.pos a k
    have pkb := h.ok.pos k b
    have pab := h.ok.pos a b
    have pai := h.ok.pos a i
    have pib := h.ok.pos i b
    have dk := h.ok.diag k
    have di := h.ok.diag i
    have e3 := hat a b
    rw [if_pos ⟨ha, hb, hne⟩] at e3
    have e1 := hat a i
    have e2 := hat i b
    by_cases hik : i = k
    · subst hik
      have f1 : fwA n M i n a i = M a i := by
        rw [e1]; split
        · rw [di]; omega
        · rfl
      have f2 : fwA n M i n i b = M i b := by
        rw [e2]; split
        · rw [di]; omega
        · rfl
      rw [f1, f2, e3]; omega
    · have hlt : i < k := by omega
      by_cases hai : a = i
      · subst hai
        rw [if_neg (by omega)] at e1
        rw [e1, e3, di]; omega
      · by_cases hib : i = b
        · subst hib
          rw [if_neg (by omega)] at e2
          rw [e2, e3, di]; omega
        · rw [if_pos ⟨ha, hin, hai⟩] at e1
          rw [if_pos ⟨hin, hb, hib⟩] at e2
          rw [e1, e2, e3]
          have t1 := h.tri i a b hlt ha hb hne
          have t2 : a = k ∨ min (M a i) (M i k) ≤ M a k := by
            by_cases hak : a = k
            · exact .inl hak
            · exact .inr (h.tri i a k hlt ha hk hak)
          have t3 : k = b ∨ min (M k i) (M i b) ≤ M k b := by
            by_cases hkb : k = b
            · exact .inl hkb
            · exact .inr (h.tri i k b hlt hk hb hkb)
          have pki := h.ok.pos k i
          have pik := h.ok.pos i k
          rcases t2 with rfl | t2
          · rcases t3 with rfl | t3
            · exact absurd rfl hne
            · omega
          · rcases t3 with rfl | t3
            · omega
            · omega
set_option maxRecDepth 100000 in
theorem fw0_ok {sz : Int} {vs : List Vt} (hS : SmallV sz vs) : FwOk (fw0 vs) := by
  refine ⟨fun x => ?_, fun x y => ?_⟩
  · unfold fw0 bt; rw [beatsV_self]; simp
  · unfold fw0
    have := (sumV_bd' (p := fun r => prefB r (x : Int) (y : Int)) hS).1
    split
    · exact this
    · omega
set_option maxRecDepth 100000 in
theorem fwK_to {n : Nat} {sz : Int} {vs : List Vt} (hS : SmallV sz vs) : ∀ k, k ≤ n → FwTo n (fwK n (fw0 vs) k) k
  | 0, _ => ⟨fw0_ok hS, fun i _ _ hi => absurd hi (by omega)⟩
  | k + 1, hk => by
    rw [fwK]
    exact fwA_to (fwK_to hS k (by omega)) (by omega)
set_option maxRecDepth 100000 in
theorem pth_to {n : Nat} {sz : Int} {vs : List Vt} (hS : SmallV sz vs) : FwTo n (pthV n vs) n := fwK_to hS n (Nat.le_refl _)
set_option maxRecDepth 100000 in
/-- A relation that leads nowhere back has an end among the first n. -/
theorem last_of {R : Nat → Nat → Prop} (hirr : ∀ a, ¬ R a a) : ∀ n, 1 ≤ n → (∀ a b c, a < n → b < n → c < n → R a b → R b c → R a c) → ∃ a, a < n ∧ ∀ b, b < n → ¬ R b a
  | 0, h, _ => by omega
  | n + 1, _, ht => by
    by_cases h0 : n = 0
    · subst h0
      exact ⟨0, by omega, fun b hb => by
        have : b = 0 := by omega
        subst this; exact hirr 0⟩
    · obtain ⟨a, ha, hA⟩ := last_of (R := R) hirr n (by omega) (fun a b c h1 h2 h3 => ht a b c (by omega) (by omega) (by omega))
      by_cases hR : R n a
      · refine ⟨n, by omega, fun b hb => ?_⟩
        by_cases hbn : b = n
        · subst hbn; exact hirr b
        · exact fun hbR => hA b (by omega) (ht b n a (by omega) (by omega) (by omega) hbR hR)
      · refine ⟨a, by omega, fun b hb => ?_⟩
        by_cases hbn : b = n
        · subst hbn; exact hR
        · exact hA b (by omega)
set_option maxRecDepth 100000 in
theorem sch_trans {n : Nat} {M : Nat → Nat → Int} (h : FwTo n M n) {a b c : Nat} (ha : a < n) (hb : b < n) (hc : c < n) (h1 : M b a < M a b) (h2 : M c b < M b c) : M c a < M a c := by
  have hab : a ≠ b := fun e => by subst e; omega
  have hbc : b ≠ c := fun e => by subst e; omega
  have hac : a ≠ c := fun e => by subst e; omega
  have t1 := h.tri b a c hb ha hc hac
  have t2 := h.tri c b a hc hb ha (Ne.symm hab)
  have t3 := h.tri a c b ha hc hb (Ne.symm hbc)
  omega
set_option maxRecDepth 100000 in
/-- There is a winner by paths. -/
theorem sch_some {n : Nat} {vs : List Vt} (h0 : profOk n vs = true) : ∃ a, a < n ∧ ∀ b, b < n → pthV n vs b a ≤ pthV n vs a b := by
  have hS := prof_small h0
  have hp := pth_to (n := n) hS
  obtain ⟨a, ha, hA⟩ := last_of (R := fun b a => pthV n vs a b < pthV n vs b a) (fun a h => by omega) n (by have := prof_size h0; omega) (fun a b c h1 h2 h3 r1 r2 => sch_trans hp h1 h2 h3 r1 r2)
  exact ⟨a, ha, fun b hb => by have := hA b hb; omega⟩
set_option maxRecDepth 100000 in
theorem sch_mem {n : Nat} {vs : List Vt} (h0 : profOk n vs = true) {x : Int} : x ∈ schO n vs ↔ ∃ a : Nat, a < n ∧ x = a ∧ ∀ b, b < n → pthV n vs b a ≤ pthV n vs a b := by
  unfold schO thoseO
  rw [if_pos h0, Int.toNat_natCast, upL_mem]
  constructor
  · rintro ⟨i, hi, hq, rfl⟩
    refine ⟨i, hi, rfl, fun b hb => ?_⟩
    have h1 := allN_at hq hb
    by_cases e : i = b
    · subst e; exact Int.le_refl _
    · simpa [e, schP] using h1
  · rintro ⟨a, ha, rfl, h⟩
    refine ⟨a, ha, allN_t fun j hj => ?_, rfl⟩
    simp [schP, h j hj]
set_option maxRecDepth 100000 in
theorem sch_ne {n : Nat} {vs : List Vt} (h0 : profOk n vs = true) : schO n vs ≠ [] := by
  obtain ⟨a, ha, h⟩ := sch_some h0
  have : (a : Int) ∈ schO n vs := (sch_mem h0).2 ⟨a, ha, rfl, h⟩
  intro e
  rw [e] at this
  cases this

set_option maxRecDepth 100000 in
theorem best_head {n : Nat} {f : Nat → Int} (n1 : 1 ≤ n) : ∃ a : Nat, a < n ∧ ∃ r, bestL (rowL n f) = (a : Int) :: r := by
  obtain ⟨i, r, h1, _, h2, _⟩ := best_first (xs := rowL n f) (by rw [rowL_len]; exact n1)
  rw [rowL_len] at h2
  exact ⟨i, h2, r, h1⟩
set_option maxRecDepth 100000 in
theorem lastI_snoc (xs : List Int) (x : Int) : lastI (xs ++ [x]) = x := by simp [lastI]
set_option maxRecDepth 100000 in
theorem elim_last {n : Nat} (n1 : 1 ≤ n) (W : List Int → Int → Int) : ∃ a : Nat, a < n ∧ lastI (elimL n W n) = a := by
  obtain ⟨k, rfl⟩ : ∃ k, n = k + 1 := ⟨n - 1, by omega⟩
  have hl := leftL_elim (n := k + 1) W k (by omega)
  have hne : leftL (k + 1) (elimL (k + 1) W k) ≠ [] := fun e => by rw [e, List.length_nil] at hl; omega
  have hm := pickV_mem (f := W (leftL (k + 1) (elimL (k + 1) W k))) hne
  obtain ⟨i, hi, _, e⟩ := leftL_mem.1 hm
  exact ⟨i, hi, by rw [elimL, lastI_snoc]; exact e⟩
set_option maxRecDepth 100000 in
theorem next_lt {kept : List (List Int)} {n : Nat} (n1 : 1 ≤ n) (out : List Int) : ∃ a : Nat, a < n ∧ nextV kept n out = a := by
  unfold nextV
  split
  · rename_i i hi
    exact ⟨i, List.mem_range.1 (List.mem_of_find?_eq_some hi), rfl⟩
  · exact ⟨0, n1, rfl⟩
set_option maxRecDepth 100000 in
theorem prL_mem {kept : List (List Int)} {n : Nat} (n1 : 1 ≤ n) : ∀ k, ∀ x ∈ prL kept n k, ∃ a : Nat, a < n ∧ x = a
  | 0, x, h => by simp [prL] at h
  | k + 1, x, h => by
    rw [prL, List.mem_append] at h
    rcases h with h | h
    · exact prL_mem n1 k x h
    · rw [List.mem_singleton] at h
      subst h
      exact next_lt n1 _
set_option maxRecDepth 100000 in
theorem take_one {xs : List Int} {n : Nat} (h1 : 1 ≤ xs.length) (h : ∀ x ∈ xs, ∃ a : Nat, a < n ∧ x = a) : ∃ a : Nat, a < n ∧ ∃ r, xs.take 1 = (a : Int) :: r := by
  cases xs with
  | nil => simp at h1
  | cons x xs =>
    obtain ⟨a, ha, rfl⟩ := h x (by simp)
    exact ⟨a, ha, [], rfl⟩
set_option maxRecDepth 100000 in
theorem run_lt {n : Nat} {vs : List Vt} (h0 : profOk n vs = true) : ∃ a : Nat, a < n ∧ runO n vs = a := by
  have hsz := prof_size h0
  by_cases hn : n = 1
  · exact ⟨0, by omega, by rw [run_one h0 hn]; rfl⟩
  · have hl := srk_len (scoV pluW vs) n
    obtain ⟨x, hx⟩ := at_of_lt (xs := srk (scoV pluW vs) n) (k := 0) (by omega)
    obtain ⟨y, hy⟩ := at_of_lt (xs := srk (scoV pluW vs) n) (k := 1) (by omega)
    rw [run_two h0 hn hx hy]
    obtain ⟨i, hi, rfl⟩ := srk_mem (List.mem_of_getElem? hx)
    obtain ⟨j, hj, rfl⟩ := srk_mem (List.mem_of_getElem? hy)
    split
    · exact ⟨max i j, by omega, by omega⟩
    · exact ⟨min i j, by omega, by omega⟩
set_option maxRecDepth 100000 in
theorem elimO_eq {n : Nat} {vs : List Vt} (h0 : profOk n vs = true) (W : List Int → Int → Int) : elimO n vs W = elimL n W n := by unfold elimO; rw [if_pos h0, Int.toNat_natCast]
set_option maxRecDepth 100000 in
/-- The first of the winners is a candidate. -/
theorem win_some {rule : Int} {n : Nat} {vs : List Vt} (h0 : profOk n vs = true) (r1 : 1 ≤ rule) (r2 : rule ≤ 13) : ∃ a : Nat, a < n ∧ ∃ r, winL rule n vs = (a : Int) :: r := by
  have hsz := prof_size h0
  have n1 : 1 ≤ n := by omega
  have n2 : n ≤ 5 := by omega
  have one : ∀ {x : Int}, (∃ a : Nat, a < n ∧ x = a) → ∃ a : Nat, a < n ∧ ∃ r, [x] = (a : Int) :: r := fun {x} h => by
    obtain ⟨a, ha, rfl⟩ := h
    exact ⟨a, ha, [], rfl⟩
  have hr : rule = 1 ∨ rule = 2 ∨ rule = 3 ∨ rule = 4 ∨ rule = 5 ∨ rule = 6 ∨ rule = 7 ∨ rule = 8 ∨ rule = 9 ∨ rule = 10 ∨ rule = 11 ∨ rule = 12 ∨ rule = 13 := by omega
  rcases hr with rfl | rfl | rfl | rfl | rfl | rfl | rfl | rfl | rfl | rfl | rfl | rfl | rfl
  · show ∃ a : Nat, a < n ∧ ∃ r, bestL (rowL n (scoV pluW vs)) = (a : Int) :: r
    exact best_head n1
  · show ∃ a : Nat, a < n ∧ ∃ r, bestL (rowL n (scoV (borW n) vs)) = (a : Int) :: r
    exact best_head n1
  · show ∃ a : Nat, a < n ∧ ∃ r, bestL (rowL n (scoV (vetW n) vs)) = (a : Int) :: r
    exact best_head n1
  · show ∃ a : Nat, a < n ∧ ∃ r, bestL (copeO n vs) = (a : Int) :: r
    unfold copeO
    rw [if_pos h0, Int.toNat_natCast]
    exact best_head n1
  · show ∃ a : Nat, a < n ∧ ∃ r, bestL (maxiO n vs) = (a : Int) :: r
    unfold maxiO
    rw [if_pos h0, Int.toNat_natCast]
    exact best_head n1
  · show ∃ a : Nat, a < n ∧ ∃ r, [runO n vs] = (a : Int) :: r
    exact one (run_lt h0)
  · show ∃ a : Nat, a < n ∧ ∃ r, [lastI (elimO n vs (worF vs))] = (a : Int) :: r
    rw [elimO_eq h0]
    exact one (elim_last n1 _)
  · show ∃ a : Nat, a < n ∧ ∃ r, [lastI (elimO n vs (worL vs))] = (a : Int) :: r
    rw [elimO_eq h0]
    exact one (elim_last n1 _)
  · show ∃ a : Nat, a < n ∧ ∃ r, [lastI (elimO n vs (worP vs))] = (a : Int) :: r
    rw [elimO_eq h0]
    exact one (elim_last n1 _)
  · show ∃ a : Nat, a < n ∧ ∃ r, [bukO n vs] = (a : Int) :: r
    refine one ?_
    unfold bukO
    rw [if_pos h0, Int.toNat_natCast]
    obtain ⟨a, ha, r, e⟩ := best_head (f := wthV vs (levV n vs)) n1
    exact ⟨a, ha, by rw [e]; rfl⟩
  · show ∃ a : Nat, a < n ∧ ∃ r, schO n vs = (a : Int) :: r
    have hne := sch_ne h0
    cases h : schO n vs with
    | nil => exact absurd h hne
    | cons x r =>
      obtain ⟨a, ha, e, _⟩ := (sch_mem h0 (x := x)).1 (by rw [h]; simp)
      exact ⟨a, ha, r, by rw [e]⟩
  · show ∃ a : Nat, a < n ∧ ∃ r, (prkO n vs).take 1 = (a : Int) :: r
    have e : prkO n vs = prL (lokO n vs) n n := by unfold prkO; rw [if_pos h0, Int.toNat_natCast]
    rw [e]
    exact take_one (by rw [prL_len]; exact n1) (prL_mem n1 n)
  · show ∃ a : Nat, a < n ∧ ∃ r, (kemO n vs).take 1 = (a : Int) :: r
    have e : kemO n vs = (lstR (kemV vs) n).1 := by simp [kemO, lstO, h0]
    rw [e]
    have hm := (allO_mem n1 n2).1 (lstR_mem (cost := kemV vs) n1 n2).1
    exact take_one (by have := (rk_len hm).1; omega) (fun x hx => by
      have := rk_mem hm hx
      exact ⟨x.toNat, by omega, by omega⟩)
set_option maxRecDepth 100000 in
theorem winO_eq {rule : Int} {n : Nat} {vs : List Vt} (h0 : profOk n vs = true) : winO rule n vs = winL rule n vs := by unfold winO; rw [if_pos h0, Int.toNat_natCast]
set_option maxRecDepth 100000 in
theorem winB_some {rule : Int} {n : Nat} {vs : List Vt} (h0 : profOk n vs = true) (r1 : 1 ≤ rule) (r2 : rule ≤ 13) : ∃ a : Nat, a < n ∧ winB rule n vs = a := by
  obtain ⟨a, ha, r, e⟩ := win_some h0 r1 r2
  exact ⟨a, ha, by unfold winB; rw [winO_eq h0, e]; rfl⟩
set_option maxRecDepth 100000 in
theorem winL_out {rule : Int} {n : Nat} {vs : List Vt} (h : ¬ (1 ≤ rule ∧ rule ≤ 13)) : winL rule n vs = [] := by
  unfold winL
  repeat rw [if_neg (by omega)]
set_option maxRecDepth 100000 in
/-- Where somebody wins there is a profile and a rule. -/
theorem winB_pos {rule sz : Int} {vs : List Vt} (h : 0 ≤ winB rule sz vs) : profOk sz vs = true ∧ 1 ≤ rule ∧ rule ≤ 13 := by
  unfold winB winO at h
  cases h0 : profOk sz vs
  · rw [h0] at h; simp at h
  · refine ⟨rfl, ?_⟩
    by_cases hr : 1 ≤ rule ∧ rule ≤ 13
    · exact hr
    · rw [h0, if_pos rfl, winL_out hr] at h
      simp at h

end Go.Proofs.YtfmeklgdaabooaaGreatDoor
