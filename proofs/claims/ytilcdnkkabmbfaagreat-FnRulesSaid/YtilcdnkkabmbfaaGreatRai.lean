/- Rankings that are raised, cut and turned round, of the program and of the spec. -/
import Derived.Test.YtilcdnkkabmbfaaGreatCln
import Derived.Test.YtilcdnkkabmbfaaGreatCk12
namespace Go.Proofs.YtilcdnkkabmbfaaGreat
open Go.RowKit

set_option maxRecDepth 100000 in
theorem place_some {xs : List Int} {x : Int} (h : 0 ≤ placeI xs x) : ∃ i : Nat, placeI xs x = i ∧ i < xs.length ∧ xs[i]? = some x := by
  unfold placeI findI at h ⊢
  split at h
  · rename_i k hk
    rw [List.findIdx?_eq_some_iff_getElem] at hk
    obtain ⟨h1, h2, _⟩ := hk
    have h3 : x = xs[k] := by simpa using h2
    exact ⟨k, rfl, h1, by rw [List.getElem?_eq_getElem h1, ← h3]⟩
  · omega
set_option maxRecDepth 100000 in
theorem OwnI.some {w : World} {B : Nat} {v : Value} {xs : List Int} (h : OwnI w B v xs) (hne : 0 < xs.length) : ∃ g c, v = .slice (some ⟨g, 0, none⟩) xs.length c := by
  obtain ⟨a, c, hv, _, _, _, hb⟩ := h.val
  obtain ⟨g, hg, _⟩ := hb (fun e => by rw [e] at hne; simp at hne)
  exact ⟨g, c, by rw [hv, hg]⟩

set_option maxRecDepth 100000 in
set_option maxHeartbeats 4000000 in
theorem raise_impl (w : World) (a : Option Addr) (c n : Nat) (xs : List Int) (x : Int) (hx : rkOk n xs = true) (hxn : xs.length = n) (hR : RdI w a xs) (hc : n ≤ c) :
    Calls Tryz.prog 59 #[.slice a n c, .int .i64 x] w fun e w' => ∃ v, e = .returned (.tuple #[v, .bool (decide (1 ≤ placeI xs x))]) ∧ (1 ≤ placeI xs x → OwnI w' w.heap.size v (raiseL xs (placeI xs x).toNat)) ∧ Ext w w' := by
  have n5 : n ≤ 5 := by have := (rk_len hx).2; omega
  have n1 : 1 ≤ n := by
    have h := hx
    unfold rkOk at h
    simp only [Bool.and_eq_true] at h
    have := inR_iff.1 h.1; omega
  have hin : inR (n : Int) 1 5 = true := inR_iff.2 (by omega)
  have HXN := hide hxn
  have HX := hide hx
  have HP : Hid (∀ w', Ext w w' → Calls Tryz.prog 116 #[.slice a n c, .int .i64 x] w' fun e w'' => e = .returned (.int .i64 (placeI xs x)) ∧ Ext w' w'') := fun w' hw' => by
    have h := place_impl w' a c xs x (hR.ext hw') (by omega)
    rw [hxn] at h
    exact h
  have HC : Hid (∀ w', Ext w w' → Calls Tryz.prog 118 #[.slice a n c] w' fun e w'' => ∃ v, e = .returned v ∧ OwnI w'' w'.heap.size v xs ∧ Ext w' w'') := fun w' hw' => by
    have h := cln_impl w' a c xs (hR.ext hw') (by omega)
    rw [hxn] at h
    exact h
  clear hx hxn
  by_cases h1 : 1 ≤ placeI xs x
  · obtain ⟨i, hp, hi, hxi⟩ := place_some (xs := xs) (x := x) (by omega)
    obtain ⟨m, hm⟩ : ∃ m : Nat, i = m + 1 := ⟨i - 1, by omega⟩
    subst hm
    rw [HXN.out] at hi
    have HPL := hide hp
    have HDT : Hid (decide (1 ≤ placeI xs x) = true) := decide_eq_true h1
    rw [hp] at HP
    have HR : Hid (∀ j, j < n → (raiseL xs (m + 1)).getD j 0 = if j = m + 1 then xs.getD m 0 else if j = m then xs.getD (m + 1) 0 else xs.getD j 0) := fun j hj => raise_at (xs := xs) (i := m + 1) (by omega) (by rw [HXN.out]; exact hi) j (by rw [HXN.out]; exact hj)
    have HXI : Hid (xs.getD (m + 1) 0 = x) := hide (by simp [List.getD, hxi])
    obtain ⟨u, hu⟩ := at_of_lt (xs := xs) (k := m) (by rw [HXN.out]; omega)
    have HU : Hid (xs.getD m 0 = u) := hide (by simp [List.getD, hu])
    clear h1 hp hxi hu
    have t0 : ¬ ((m + 1 : Nat) : Int) < 1 := by omega
    have t1 : ¬ ((m : Int) + 1) < 1 := by omega
    go_enter Tryz.func59, Tryz.ntmps59
    go_wp2_with (first | (go_at_call 116; refine (HP.out _ (by repeat (first | exact Ext.refl _ | assumption | refine Ext.alloc ?_ _ | refine Ext.drew ?_ | refine Ext.trans ?_ (by assumption)))).mono ?_; rintro e w1 ⟨rfl, hw1⟩) | (go_at_call 117; refine (isRk_impl _ a c n xs HX.out (hR.ext (by repeat (first | exact Ext.refl _ | assumption | refine Ext.alloc ?_ _ | refine Ext.drew ?_ | refine Ext.trans ?_ (by assumption)))) HXN.out hc hin).mono ?_; rintro e w1 ⟨rfl, hw1⟩))
    have hw : Ext w w1 := (by repeat (first | exact Ext.refl _ | assumption | refine Ext.alloc ?_ _ | refine Ext.drew ?_ | refine Ext.trans ?_ (by assumption)))
    obtain ⟨wb, hwb⟩ : ∃ wb : World, wb = w1 := ⟨_, rfl⟩
    subst hwb
    clear hw1
    refine (HC.out _ hw).mono ?_
    rintro e w2 ⟨v, rfl, hv, hw2⟩
    obtain ⟨g, c2, rfl⟩ := hv.some (by rw [HXN.out]; omega)
    obtain ⟨hS, _, hnc, hcm, hg, hB⟩ := hv.shp
    rw [HXN.out] at hB hnc ⊢
    have hww : Ext w w2 := hw.trans hw2
    have hgw : w.heap.size ≤ g := Nat.le_trans hw.size hg
    have b0 := hB.cell (m + 1) hi
    have b1 := hB.cell m (by omega)
    rw [HXI.out] at b0
    rw [HU.out] at b1
    have z0 := hB.fr (m + 1)
    have z1 := hB.fr m
    have HB := hide hB
    have HS := hide hS
    clear hv hB hS hw2 HP HC
    have i1 : (m : Int) + 1 < (n : Int) := by omega
    have i2 : (0 : Int) ≤ (m : Int) + 1 := by omega
    have i3 : ((m : Int) + 1).toNat = m + 1 := by omega
    have i4 : m < n := by omega
    have i5 : m + 1 < n := by omega
    have j1 : (m : Int) + 1 - 1 = m := by omega
    have j2 : (-9223372036854775808 : Int) ≤ m ∧ (m : Int) ≤ 9223372036854775807 := by omega
    have y3 : wrap64 (m : Int) = m := IntWalk.wrap64_in _ j2
    have y4 : IntKind.i64.wrap (m : Int) = m := IntWalk.i64_in _ j2
    have y1 : wrap64 ((m : Int) + 1 - 1) = m := by rw [j1]; exact y3
    have y2 : IntKind.i64.wrap ((m : Int) + 1 - 1) = m := by rw [j1]; exact y4
    clear j1 j2
    go_wp2
    refine wp_region_X (by kernel_rfl) (by kernel_rfl) ?_
    repeat' (refine wpX_stepQ (fun K hK => ?_)
             go_simp
             try (rw [if_neg (by intro h; simp [undef] at h)])
             try split
             all_goals
               first
               | (refine hK _ ?_
                  clear hK K)
               | (apply Exists.intro
                  refine ⟨fun wq hwq => ?_, hK _ ?_⟩
                  · have hcq := hwq.cellS
                    go_simp
                    first
                    | exact ⟨Ext.refl _, rfl⟩
                  clear hK K))
    refine wpX_stepC rfl (by kernel_rfl) (fun K hK' wa hwa => ?_)
    have hca := hwa.cellS
    have hfa := hwa.frozenS
    go_simp
    refine hK' _ _ ?_
    clear hK' K hca hfa
    have hB1 := (HB.out.ext hwa).set m i4 (.int .i64 x)
    have hO1 : Only g w2 (wa.setCell ⟨g, m, none⟩ (.int .i64 x)) := (Only.of_ext hwa).setCell _ _
    have hS1 := (HS.out.ext hwa).setCell ⟨g, m, none⟩ (.int .i64 x)
    generalize wa.setCell ⟨g, m, none⟩ (.int .i64 x) = w5 at hB1 hO1 hS1 ⊢
    have c1 := hB1.cell (m + 1) i5
    rw [if_neg (by omega), HXI.out] at c1
    have g1 := hB1.fr (m + 1)
    have HB1 := hide hB1
    clear hB1 b0 b1 z0 z1
    repeat' (refine wpX_stepQ (fun K hK => ?_)
             go_simp
             try (rw [if_neg (by intro h; simp [undef] at h)])
             try split
             all_goals
               first
               | (refine hK _ ?_
                  clear hK K)
               | (apply Exists.intro
                  refine ⟨fun wq hwq => ?_, hK _ ?_⟩
                  · have hcq := hwq.cellS
                    go_simp
                    first
                    | exact ⟨Ext.refl _, rfl⟩
                  clear hK K))
    refine wpX_stepL rfl (by kernel_rfl) (by kernel_rfl) (by kernel_rfl) (fun K hK wz hwz => ?_)
    have hcz := hwz.cellS
    have hfz := hwz.frozenS
    go_simp
    refine hK _ _ ?_
    clear hK K
    go_wp2
    go_ret2
    have hB2 := (HB1.out.ext hwz).set (m + 1) i5 (.int .i64 u)
    have hO2 : Only g w2 (wz.setCell ⟨g, m + 1, none⟩ (.int .i64 u)) := (hO1.trans (Only.of_ext hwz)).setCell _ _
    have hS2 := (hS1.ext hwz).setCell ⟨g, m + 1, none⟩ (.int .i64 u)
    refine ⟨_, by rw [HDT.out]; rfl, fun _ => ?_, Only.ext hww hO2 hgw⟩
    rw [HPL.out, Int.toNat_natCast]
    refine Shp.own hS2 hB2 (by rw [raise_len, HXN.out]) (fun j y hy => ?_) hgw hnc hcm
    have hj := lt_of_at hy
    rw [raise_len, HXN.out] at hj
    have h2 : (raiseL xs (m + 1)).getD j 0 = y := by simp [List.getD, hy]
    rw [HR.out j hj] at h2
    rw [← h2]
    by_cases e1 : j = m + 1
    · rw [if_pos e1, if_pos e1, HU.out]
    · rw [if_neg e1, if_neg e1]
      by_cases e2 : j = m
      · rw [if_pos e2, if_pos e2, HXI.out]
      · rw [if_neg e2, if_neg e2]
  · have t0 : placeI xs x < 1 := by omega
    clear h1
    go_enter Tryz.func59, Tryz.ntmps59
    go_wp2_with (first | (go_at_call 116; refine (HP.out _ (by repeat (first | exact Ext.refl _ | assumption | refine Ext.alloc ?_ _ | refine Ext.drew ?_ | refine Ext.trans ?_ (by assumption)))).mono ?_; rintro e w1 ⟨rfl, hw1⟩) | (go_at_call 117; refine (isRk_impl _ a c n xs HX.out (hR.ext (by repeat (first | exact Ext.refl _ | assumption | refine Ext.alloc ?_ _ | refine Ext.drew ?_ | refine Ext.trans ?_ (by assumption)))) HXN.out hc hin).mono ?_; rintro e w1 ⟨rfl, hw1⟩))
    go_ret2
    exact ⟨.slice none 0 0, by rw [decide_eq_false (by omega)]; rfl, fun h => by omega, (by repeat (first | exact Ext.refl _ | assumption | refine Ext.alloc ?_ _ | refine Ext.drew ?_ | refine Ext.trans ?_ (by assumption)))⟩

end Go.Proofs.YtilcdnkkabmbfaaGreat
