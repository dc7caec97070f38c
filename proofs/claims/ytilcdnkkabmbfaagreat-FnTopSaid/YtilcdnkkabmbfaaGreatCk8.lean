/- Weights of places, and the scores of a profile by them (the program's side). slices.Repeat of one integer. Maximin scores. The number of voters. -/
import Derived.Test.YtilcdnkkabmbfaaGreatCk1
import Derived.Test.YtilcdnkkabmbfaaGreatCk6
import Derived.Test.YtilcdnkkabmbfaaGreatCk3
import Derived.Laws.IdiomCopy
import Derived.Test.YtilcdnkkabmbfaaGreatCk5
namespace Go.Proofs.YtilcdnkkabmbfaaGreat
open Go.RowKit

/-- Weights that may be given to n places. -/
def GoodW (f : Nat → Int) : Prop := (∀ j, 0 ≤ f j ∧ f j ≤ 100) ∧ ∀ j, f (j + 1) ≤ f j

set_option maxRecDepth 100000 in
set_option maxHeartbeats 1000000 in
theorem weightsOf_impl (K : Nat) (cap : Array Value) (f : Nat → Int) (w : World) (n : Nat) (n1 : 1 ≤ n) (n2 : n ≤ 5) (hK : Enters Tryz.prog K)
    (hf : ∀ (j : Nat) (w' : World), j < n → Ext w w' → Calls Tryz.prog K (#[.int .i64 j] ++ cap) w' fun e w'' => e = .returned (.int .i64 (f j)) ∧ Ext w' w'') :
    Calls Tryz.prog 82 #[.int .i64 n, .func (.func K) #[] cap] w fun e w' => ∃ v, e = .returned v ∧ OwnI w' w.heap.size v (rowL n f) ∧ Ext w w' := by
  unfold Enters at hK
  have HF := hide hf
  clear hf
  have hin : inR (n : Int) 1 5 = true := inR_iff.2 (by omega)
  go_enter Tryz.func82, Tryz.ntmps82
  go_wp2_with (go_at_call 63; refine (in_impl _ _ _ _).mono ?_; rintro e w1 ⟨rfl, hw1⟩)
  have hw : Ext w w1 := hw1
  clear hw1
  go_loopw [5, 6, 11] (fun v _ i wr => ∃ k : Nat, k ≤ n ∧ i = .int .i64 k ∧ OwnI wr w.heap.size v (rowL k f) ∧ Ext w wr) (fun _ _ i _ => n - (intOf i).toNat)
  case atStart => exact ⟨0, Nat.zero_le _, rfl, OwnI.nil _ _, hw⟩
  case round =>
    obtain ⟨k, hk, rfl, hown, hwr⟩ := hrel
    have hrl := rowL_len k f
    by_cases hlt : k < n
    · go_wp2_with fail
      refine (HF.out k wr hlt hwr).mono ?_
      rintro e w1 ⟨rfl, hw1⟩
      go_wp2_with (at_builtin; refine wpList_appI w _ rfl _ _ rfl _ (rowL k f) _ rfl (hown.ext (by repeat (first | exact Ext.refl _ | assumption | refine Ext.alloc ?_ _ | refine Ext.drew ?_ | refine Ext.trans ?_ (by assumption)))) (by repeat (first | exact Ext.refl _ | assumption | refine Ext.alloc ?_ _ | refine Ext.drew ?_ | refine Ext.trans ?_ (by assumption))) rfl (by omega) ?_; intro v' w3 hown3 hw3)
      exact ⟨⟨k + 1, by omega, by go_num, by rw [rowL_succ]; exact hown3, (by repeat (first | exact Ext.refl _ | assumption | refine Ext.alloc ?_ _ | refine Ext.drew ?_ | refine Ext.trans ?_ (by assumption)))⟩, by simp [intOf]; omega⟩
    · have hkn : k = n := by omega
      go_wp2
      go_ret
      rw [hkn] at hown
      exact ⟨_, rfl, hown, hwr⟩

set_option maxRecDepth 100000 in
set_option maxHeartbeats 1000000 in
theorem sortOne (w : World) (x y : Int) (hx : 0 ≤ x ∧ x ≤ 100) (hy : 0 ≤ y ∧ y ≤ 100) :
    Calls Tryz.prog 166 #[.int .i64 x, .int .i64 y] w fun e w' => e = .returned (.int .i64 (y - x)) ∧ Ext w w' := by
  go_enter Tryz.func166, Tryz.ntmps166
  go_wp2
  go_ret
  exact ⟨rfl, (by repeat (first | exact Ext.refl _ | assumption | refine Ext.alloc ?_ _ | refine Ext.drew ?_ | refine Ext.trans ?_ (by assumption)))⟩

set_option maxRecDepth 100000 in
set_option maxHeartbeats 1000000 in
theorem sorted_impl (w : World) (a : Option Addr) (c n : Nat) (f : Nat → Int) (hR : RdI w a (rowL n f)) (n1 : 1 ≤ n) (n2 : n ≤ 5) (hf : GoodW f) :
    Calls Tryz.prog 165 #[.slice a n c, .func (.func 166) #[] #[]] w fun e w' => e = .returned (.bool true) ∧ Ext w w' := by
  have hK := Tryz.call166
  have HF := hide hf
  clear hf
  go_enter Tryz.func165, Tryz.ntmps165
  go_wp2_with fail
  go_loopw [5] (fun i wr => ∃ k : Nat, k + 1 ≤ n ∧ i = .int .i64 k ∧ Ext w wr) (fun i _ => (intOf i).toNat)
  case atStart => exact ⟨n - 1, by omega, by go_num, Ext.refl _⟩
  case round =>
    obtain ⟨k, hk, rfl, hwr⟩ := hrel
    by_cases hlt : 0 < k
    · obtain ⟨m, hm⟩ : ∃ m : Nat, k = m + 1 := ⟨k - 1, by omega⟩
      subst hm
      obtain ⟨b, off, rfl, c0⟩ := (hR.ext hwr).at_ (rowL_at (f := f) (show m + 1 < n by omega))
      obtain ⟨b2, off2, hb, c1⟩ := (hR.ext hwr).at_ (rowL_at (f := f) (show m < n by omega))
      injection hb with hb
      injection hb with hb hb2
      subst hb
      subst hb2
      have e1 := HF.out.1 m
      have e2 := HF.out.1 (m + 1)
      have e3 := HF.out.2 m
      have y1 : wrap64 ((m : Int) + 1 - 1) = m := by rw [IntWalk.wrap64_in _ (by omega)]; omega
      have y2 : IntKind.i64.wrap ((m : Int) + 1 - 1) = m := by rw [IntWalk.i64_left]; exact y1
      have y3 : wrap64 (m : Int) = m := IntWalk.wrap64_in _ (by omega)
      have y4 : IntKind.i64.wrap (m : Int) = m := IntWalk.i64_in _ (by omega)
      have i1 : (m : Int) + 1 < (n : Int) := by omega
      have i2 : (0 : Int) ≤ (m : Int) + 1 := by omega
      have i3 : ((m : Int) + 1).toNat = m + 1 := by omega
      have i4 : m < n := by omega
      go_wp2
      refine wp_region_X (by kernel_rfl) (by kernel_rfl) ?_
      repeat' (refine wpX_stepQ (fun K hK => ?_)
               go_simp
               try (rw [if_neg (by intro h; simp [undef] at h)])
               try split
               all_goals
                 first
                 | (refine hK _ ?_
                    clear hK K)
                 | (apply Exists.intro
                    refine ⟨fun wq hwq => ?_, hK _ ?_⟩
                    · have hcq := hwq.cellS
                      go_simp
                      first
                      | exact ⟨Ext.refl _, rfl⟩
                      | exact ⟨Ext.refl _, sortOne _ _ _ e2 e1⟩
                    clear hK K))
      refine wpX_nil (fun wz hwz => ?_)
      go_wp2
      exact ⟨⟨m, by omega, by go_num, hwr.trans hwz⟩, by simp [intOf]⟩
    · have hk0 : k = 0 := by omega
      go_wp2
      go_ret
      exact ⟨rfl, hwr⟩

set_option maxRecDepth 100000 in
theorem good_all {n : Nat} {f : Nat → Int} (h : GoodW f) : (rowL n f).all (fun x => inR x 0 100) = true := by
  rw [List.all_eq_true]
  intro x hx
  obtain ⟨j, hj⟩ := List.mem_iff_getElem?.1 hx
  obtain ⟨_, rfl⟩ := rowL_val hj
  exact inR_iff.2 (h.1 j)

set_option maxRecDepth 100000 in
set_option maxHeartbeats 1000000 in
theorem wOk_impl (w : World) (a : Option Addr) (c n : Nat) (f : Nat → Int) (hR : RdI w a (rowL n f)) (n1 : 1 ≤ n) (n2 : n ≤ 5) (hf : GoodW f) :
    Calls Tryz.prog 137 #[.int .i64 n, .slice a n c] w fun e w' => e = .returned (.bool true) ∧ Ext w w' := by
  have HF := hide hf
  have hin : inR (n : Int) 1 5 = true := inR_iff.2 (by omega)
  have HA : Hid (∀ w', Ext w w' → Calls Tryz.prog 164 #[.slice a n c, .int .i64 0, .int .i64 100] w' fun e w'' => e = .returned (.bool true) ∧ Ext w' w'') := fun w' hw' => by
    have h := allIn_impl w' a c (rowL n f) 0 100 (hR.ext hw') (by rw [rowL_len]; omega)
    rw [good_all hf, rowL_len] at h
    exact h
  clear hf
  go_enter Tryz.func137, Tryz.ntmps137
  go_wp2_with (first | (go_at_call 63; refine (in_impl _ _ _ _).mono ?_; rintro e w1 ⟨rfl, hw1⟩) | (go_at_call 164; refine (HA.out _ (by repeat (first | exact Ext.refl _ | assumption | refine Ext.alloc ?_ _ | refine Ext.drew ?_ | refine Ext.trans ?_ (by assumption)))).mono ?_; rintro e w1 ⟨rfl, hw1⟩) | (go_at_call 165; refine (sorted_impl _ a c n f (hR.ext (by repeat (first | exact Ext.refl _ | assumption | refine Ext.alloc ?_ _ | refine Ext.drew ?_ | refine Ext.trans ?_ (by assumption)))) n1 n2 HF.out).mono ?_; rintro e w1 ⟨rfl, hw1⟩))
  go_ret
  exact ⟨rfl, (by repeat (first | exact Ext.refl _ | assumption | refine Ext.alloc ?_ _ | refine Ext.drew ?_ | refine Ext.trans ?_ (by assumption)))⟩

/-- The score of a candidate. -/
def scoV (f : Nat → Int) (vs : List Vt) (a : Nat) : Int := (vs.map fun x => x.2 * f (placeI x.1 a).toNat).sum
set_option maxRecDepth 100000 in
theorem scoV_at {f : Nat → Int} {vs : List Vt} {k : Nat} {x : Vt} (hx : vs[k]? = some x) (a : Nat) : scoV f (vs.take (k + 1)) a = scoV f (vs.take k) a + x.2 * f (placeI x.1 a).toNat := by
  unfold scoV; rw [take_at hx]; simp
set_option maxRecDepth 100000 in
theorem wf_bd {f : Nat → Int} (hf : GoodW f) {x : Vt} (h1 : 1 ≤ x.2) (h2 : x.2 ≤ 1000) (j : Nat) : 0 ≤ x.2 * f j ∧ x.2 * f j ≤ 100000 := by
  have h3 := hf.1 j
  constructor
  · exact Int.mul_nonneg (by omega) h3.1
  · have : x.2 * f j ≤ 1000 * 100 := Int.mul_le_mul h2 h3.2 h3.1 (by decide)
    omega
set_option maxRecDepth 100000 in
theorem scoV_bd {n : Int} {f : Nat → Int} {vs : List Vt} (hS : SmallV n vs) (hf : GoodW f) (a : Nat) : ∀ k, k ≤ vs.length → 0 ≤ scoV f (vs.take k) a ∧ scoV f (vs.take k) a ≤ 100000 * k
  | 0, _ => by simp [scoV]
  | k + 1, hk => by
    obtain ⟨x, hx⟩ := at_of_lt (xs := vs) (k := k) (by omega)
    have h1 := scoV_bd hS hf a k (by omega)
    have h2 := hS.2 x (List.mem_of_getElem? hx)
    have h3 := wf_bd hf h2.2.1 h2.2.2 (placeI x.1 a).toNat
    rw [scoV_at hx]
    omega
/-- The table while vote k is counted over m places. -/
def scoT (f : Nat → Int) (vs : List Vt) (k : Nat) (x : Vt) (m o : Nat) : Int := scoV f (vs.take k) o + if placeI x.1 o < (m : Int) then x.2 * f (placeI x.1 o).toNat else 0

set_option maxRecDepth 100000 in
theorem pluF : GoodW (fun j => if j = 0 then 1 else 0) := ⟨fun j => by dsimp only; split <;> omega, fun j => by dsimp only; split <;> split <;> omega⟩
set_option maxRecDepth 100000 in
theorem plc_sco {n : Nat} {a : Nat} (ha : a < n) : ∀ {vs : List Vt}, SmallV n vs → scoV (fun j => if j = 0 then 1 else 0) vs a = plcV vs a 0
  | [], _ => by simp [scoV, plcV, sumV]
  | x :: vs, hS => by
    have ih := plc_sco ha hS.tail
    obtain ⟨p, hp, hpl, hpa, hpu⟩ := place_at (hS.2 x (by simp)).1 ha
    have e : scoV (fun j => if j = 0 then 1 else 0) (x :: vs) a = x.2 * (if (placeI x.1 a).toNat = 0 then 1 else 0) + scoV (fun j => if j = 0 then 1 else 0) vs a := by simp [scoV]
    have e2 : plcV (x :: vs) a 0 = (if plcP a 0 x.1 then x.2 else 0) + plcV vs a 0 := sumV_cons _ _ _
    rw [e, e2, ih, hpl]
    by_cases h0 : p = 0
    · subst h0; simp [plcP, hpa]
    · have : plcP a 0 x.1 = false := by
        simp only [plcP, beq_eq_false_iff_ne]
        exact fun h => h0 (hpu 0 h).symm
      rw [this]; simp [h0]

set_option maxRecDepth 100000 in
set_option maxHeartbeats 4000000 in
theorem sco_impl (w : World) (sz : Int) (a aw : Option Addr) (c cw : Nat) (vs : List Vt) (f : Nat → Int) (n : Nat) (hz : sz = n) (hR : RdV w a vs) (hW : RdI w aw (rowL n f)) (hf : GoodW f) (h0 : profOk sz vs = true) :
    Calls Tryz.prog 81 #[.agg #[.int .i64 sz, .slice a vs.length c], .slice aw n cw] w fun e w' => ∃ v, e = .returned v ∧ WrI w' w.heap.size v (rowL n (scoV f vs)) ∧ Ext w w' := by
  subst hz
  obtain ⟨m, hm, n1, n2⟩ := prof_nat h0
  have hnm : n = m := by omega
  rw [← hnm] at n1 n2
  clear hm hnm m
  have HS := hide (prof_small h0)
  have HF := hide hf
  clear hf
  have hvl := (prof_small h0).1
  have q0 := new0 w (.int .i64 n) [.slice a vs.length c] 29
  have q1 := new1 w (.int .i64 n) (.slice a vs.length c) [] 29
  obtain ⟨i0, hi, hz0, hz1, hz2⟩ := info_parts info_int
  have hmk := fun W => run_make_rowN (P := Tryz.prog) 36 3 i0 _ Tryz.underlying36 hi hz0 .i64 .i64 n n (Nat.le_refl _) (by rw [hz2]; omega) (by omega) W
  rw [hz1, Nat.mul_one] at hmk
  go_enter Tryz.func81, Tryz.ntmps81
  go_wp2_with (first | (go_at_call 36; refine (prof_impl _ _ _ _ _ (hR.ext (by repeat (first | exact Ext.refl _ | assumption | refine Ext.alloc ?_ _ | refine Ext.drew ?_ | refine Ext.trans ?_ (by assumption))))).mono ?_; rintro e w1 ⟨rfl, hw1⟩; have q0 := Ext.keep (w' := w1) (by repeat (first | exact Ext.refl _ | assumption | refine Ext.alloc ?_ _ | refine Ext.drew ?_ | refine Ext.trans ?_ (by assumption))) q0; have q1 := Ext.keep (w' := w1) (by repeat (first | exact Ext.refl _ | assumption | refine Ext.alloc ?_ _ | refine Ext.drew ?_ | refine Ext.trans ?_ (by assumption))) q1) | (go_at_call 137; refine (wOk_impl _ aw cw n f (hW.ext (by repeat (first | exact Ext.refl _ | assumption | refine Ext.alloc ?_ _ | refine Ext.drew ?_ | refine Ext.trans ?_ (by assumption)))) n1 n2 HF.out).mono ?_; rintro e w1 ⟨rfl, hw1⟩; have q0 := Ext.keep (w' := w1) (by repeat (first | exact Ext.refl _ | assumption | refine Ext.alloc ?_ _ | refine Ext.drew ?_ | refine Ext.trans ?_ (by assumption))) q0; have q1 := Ext.keep (w' := w1) (by repeat (first | exact Ext.refl _ | assumption | refine Ext.alloc ?_ _ | refine Ext.drew ?_ | refine Ext.trans ?_ (by assumption))) q1))
  clear hmk
  have hw : Ext w w1 := (by repeat (first | exact Ext.refl _ | assumption | refine Ext.alloc ?_ _ | refine Ext.drew ?_ | refine Ext.trans ?_ (by assumption)))
  have hR0 := hR.ext hw
  have hW0 := hW.ext hw
  have hB := BlkF.new w1 (madeCells #[.int .i64 0] n) 3
  rw [size_madeCells] at hB
  have hB := hB.congr (f' := fun o => .int .i64 (scoV f (vs.take 0) o)) (fun o ho => by rw [show scoV f (vs.take 0) o = 0 by simp [scoV]]; exact made_int n o ho)
  have h20 := Ext.new w1 (.cells (madeCells #[.int .i64 0] n) 3)
  obtain ⟨wb, hwb⟩ : ∃ wb : World, wb = w1 := ⟨_, rfl⟩
  subst hwb
  have q0 := h20.keep q0
  have q1 := h20.keep q1
  generalize wb.alloc (.cells (madeCells #[.int .i64 0] n) 3) = W0 at hB h20 q0 q1 ⊢
  go_wp2_with fail
  go_loopw [7, 8, 9, 26, 31, 32, 33] (fun _ _ _ i _ _ _ wr => ∃ k : Nat, k ≤ vs.length ∧ i = .int .i64 k ∧ BlkF wr wb.heap.size n (fun o => .int .i64 (scoV f (vs.take k) o)) ∧ Ext wb wr) (fun _ _ _ i _ _ _ _ => vs.length - (intOf i).toNat)
  case atStart => exact ⟨0, Nat.zero_le _, rfl, hB, h20⟩
  case round =>
    clear hB h20
    obtain ⟨k, hk, rfl, hB, hwr⟩ := hrel
    by_cases hlt : k < vs.length
    · obtain ⟨x, hx⟩ := at_of_lt hlt
      obtain ⟨b, off, a', c', rfl, c0, c1, hc', hRx⟩ := hR0.at_ hx
      have c0 := hwr.keep c0
      have c1 := hwr.keep c1
      have hgl := hB.lt
      obtain ⟨x0, x1, x2⟩ := HS.out.2 x (List.mem_of_getElem? hx)
      have hxl := (rk_len x0).1
      have HX0 := hide x0
      have HX := hide hx
      clear hx x0
      have e0 := new0 wr (.slice a' x.1.length c') [.int .i64 x.2] 55
      have e1 := new1 wr (.slice a' x.1.length c') (.int .i64 x.2) [] 55
      have hlen : x.1.length = n := by omega
      rw [hlen] at c0 e0 e1 hc'
      clear hxl hlen
      have hBx := hB.ext (Ext.new wr (.cells #[.slice a' n c', .int .i64 x.2] 55))
      clear hB
      have hB := hBx.congr (f' := fun o => .int .i64 (scoT f vs k x 0 o)) (fun o ho => by
        obtain ⟨p, _, hpl, _⟩ := place_at HX0.out ho
        unfold scoT
        rw [hpl, if_neg (by omega)]; simp)
      clear hBx
      have hE := Ext.new wr (.cells #[.slice a' n c', .int .i64 x.2] 55)
      have c1' := HX.out
      go_wp2_with fail
      clear c0 c1 c1'
      generalize wr.alloc (.cells #[.slice a' n c', .int .i64 x.2] 55) = W1 at hB hE e0 e1 ⊢
      have hwr := hwr.trans hE
      clear hE
      go_loopw [8, 9, 33] (fun _ _ i w2 => ∃ m : Nat, m ≤ n ∧ i = .int .i64 m ∧ BlkF w2 wb.heap.size n (fun o => .int .i64 (scoT f vs k x m o)) ∧ Ext wb w2 ∧ w2.cell? ⟨wr.heap.size, 1, none⟩ = some (.int .i64 x.2)) (fun _ _ i _ => n - (intOf i).toNat)
      case atStart => exact ⟨0, Nat.zero_le _, rfl, hB, hwr, e1⟩
      case round =>
        clear hB hwr e1 e0
        obtain ⟨m, hm, rfl, hB, hwr2, e1⟩ := hrel
        by_cases hmt : m < n
        · obtain ⟨y, hy⟩ := at_of_lt (xs := x.1) (k := m) (by have := (rk_len HX0.out).1; omega)
          have hym := rk_mem HX0.out (List.mem_of_getElem? hy)
          obtain ⟨o, rfl⟩ : ∃ o : Nat, y = o := ⟨y.toNat, by omega⟩
          have ho : o < n := by omega
          obtain ⟨p, hp, hpl, hpa, hpu⟩ := place_at HX0.out ho
          have hpm : p = m := (hpu m hy).symm
          rw [hpm] at hpl hpa
          have hoth : ∀ o', o' < n → o' ≠ o → scoT f vs k x (m + 1) o' = scoT f vs k x m o' := fun o' ho' hne => by
            obtain ⟨p', _, hpl', hpa', _⟩ := place_at HX0.out ho'
            have hne2 : p' ≠ m := fun e => by rw [e, hy] at hpa'; injection hpa' with h; omega
            unfold scoT
            rw [hpl']
            by_cases h1 : p' < m
            · rw [if_pos (by omega), if_pos (by omega)]
            · rw [if_neg (by omega), if_neg (by omega)]
          have hat : scoT f vs k x m o = scoV f (vs.take k) o := by unfold scoT; rw [hpl, if_neg (by omega)]; simp
          have hnx : scoT f vs k x (m + 1) o = scoV f (vs.take k) o + x.2 * f m := by unfold scoT; rw [hpl, if_pos (by omega)]; simp
          obtain ⟨b2, off2, rfl, d2⟩ := (hRx.ext hwr2).at_ hy
          obtain ⟨b3, off3, rfl, d3⟩ := (hW0.ext hwr2).at_ (rowL_at (f := f) hmt)
          have d4 := hB.cell o ho
          rw [hat] at d4
          have z4 := hB.fr o
          obtain ⟨s1, s2⟩ := scoV_bd HS.out HF.out o k hk
          obtain ⟨s3, s4⟩ := wf_bd HF.out x1 x2 m
          have y1 : wrap64 (x.2 * f m) = x.2 * f m := IntWalk.wrap64_in _ (by omega)
          have y2 : IntKind.i64.wrap (x.2 * f m) = x.2 * f m := IntWalk.i64_in _ (by omega)
          have y3 : wrap64 (scoV f (vs.take k) o + x.2 * f m) = scoT f vs k x (m + 1) o := by rw [IntWalk.wrap64_in _ (by omega), hnx]
          have y4 : IntKind.i64.wrap (scoV f (vs.take k) o + x.2 * f m) = scoT f vs k x (m + 1) o := by rw [IntWalk.i64_left]; exact y3
          have HO := hide hoth
          have HB := hide hB
          clear hoth hB hat hnx hpl hpa hpu hpm s1 s2 s3 s4 hy hym
          go_wp2
          refine wp_region_X (by kernel_rfl) (by kernel_rfl) ?_
          repeat' (refine wpX_stepQ (fun K hK => ?_)
                   go_simp
                   try (rw [if_neg (by intro h; simp [undef] at h)])
                   try split
                   all_goals
                     first
                     | (refine hK _ ?_
                        clear hK K)
                     | (apply Exists.intro
                        refine ⟨fun wq hwq => ?_, hK _ ?_⟩
                        · have hcq := hwq.cellS
                          go_simp
                          first
                          | exact ⟨Ext.refl _, rfl⟩
                        clear hK K))
          refine wpX_stepL rfl (by kernel_rfl) (by kernel_rfl) (by kernel_rfl) (fun K hK wz hwz => ?_)
          have hcz := hwz.cellS
          have hfz := hwz.frozenS
          go_simp
          refine hK _ _ ?_
          clear hK K
          go_wp2
          refine ⟨⟨m + 1, by omega, by go_num, ((HB.out.ext hwz).set o ho _).congr (fun o' ho' => ?_), Ext.setCell (hwr2.trans hwz) (Nat.le_refl _) _, ?_⟩, by simp [intOf]; omega⟩
          · by_cases e : o' = o
            · subst e; rw [if_pos rfl]
            · rw [if_neg e, HO.out o' ho' e]
          · rw [World.cell?_setCell_other _ _ _ _ (by simp only [ne_eq, Addr.mk.injEq, not_and]; omega)]
            exact hwz.keep e1
        · have hmn : m = n := by omega
          go_wp2
          refine ⟨⟨k + 1, by omega, by go_num, hB.congr (fun o ho => ?_), hwr2⟩, by simp [intOf]; omega⟩
          obtain ⟨p, hp, hpl, _⟩ := place_at HX0.out ho
          rw [scoV_at HX.out, hmn]
          unfold scoT
          rw [hpl, if_pos (by omega)]
    · have hkl : k = vs.length := by omega
      go_wp2
      go_ret
      refine ⟨_, rfl, hB.wrI (rowL_len _ _) (fun j x hx => ?_) hw.size (Nat.le_refl _), hw.trans hwr⟩
      obtain ⟨hj, rfl⟩ := rowL_val hx
      rw [hkl, List.take_length]

set_option maxRecDepth 100000 in
theorem BlkF.setCells {g n : Nat} : ∀ (cs : List Value) (w : World) (f : Nat → Value) (o : Nat), BlkF w g n f → o + cs.length ≤ n →
    BlkF (w.setCells g o cs) g n (fun x => if o ≤ x ∧ x < o + cs.length then cs.getD (x - o) undef else f x)
  | [], w, f, o, h, _ => by
    refine BlkF.congr (f := f) h (fun x _ => ?_)
    have h0 : ¬ (o ≤ x ∧ x < o + ([] : List Value).length) := by simp only [List.length_nil]; omega
    rw [if_neg h0]
  | c :: cs, w, f, o, h, ho => by
    simp only [List.length_cons] at ho
    have h1 := BlkF.setCells cs _ _ (o + 1) (h.set o (by omega) c) (by omega)
    refine BlkF.congr (w := w.setCells g o (c :: cs)) h1 (fun x hx => ?_)
    simp only [List.length_cons]
    by_cases e : x = o
    · subst e
      have e1 : ¬ (x + 1 ≤ x ∧ x < x + 1 + cs.length) := by omega
      have e2 : x ≤ x ∧ x < x + (cs.length + 1) := by omega
      rw [if_neg e1, if_pos rfl, if_pos e2, Nat.sub_self]
      rfl
    · by_cases e2 : o + 1 ≤ x ∧ x < o + 1 + cs.length
      · have e3 : o ≤ x ∧ x < o + (cs.length + 1) := by omega
        rw [if_pos e2, if_pos e3]
        obtain ⟨k, hk⟩ : ∃ k, x - o = k + 1 := ⟨x - o - 1, by omega⟩
        rw [hk, show x - (o + 1) = k by omega]
        simp
      · have e3 : ¬ (o ≤ x ∧ x < o + (cs.length + 1)) := by omega
        rw [if_neg e2, if_neg e3, if_neg e]
set_option maxRecDepth 100000 in
theorem Ext.setCells {W : World} {g : Nat} (hg : W.heap.size ≤ g) : ∀ (cs : List Value) (w : World) (o : Nat), Ext W w → Ext W (w.setCells g o cs)
  | [], _, _, h => h
  | c :: cs, _, o, h => Ext.setCells hg cs _ (o + 1) (h.setCell hg c)

set_option maxRecDepth 100000 in
theorem run_copyB (w : World) (ty : TypeId) (g n o dLen dCap : Nat) (f : Nat → Value) (hB : BlkF w g n f) (a : Addr) (sLen sCap : Nat) (v : Int) (m : Nat) (hm : m = Nat.min sLen dLen) (ho : o + m ≤ n)
    (hsrc : ∀ j, j < m → w.cell? (a.add j) = some (.int .i64 v)) :
    (Builtin.copy_ #[36, 36] ty #[.slice (some ⟨g, o, none⟩) dLen dCap, .slice (some a) sLen sCap]).run Tryz.prog w = .ok (goInt m) (w.setCells g o (List.replicate m (.int .i64 v))) := by
  obtain ⟨i0, hi, hz0, hz1, hz2⟩ := info_parts info_int
  have h := run_copy_cells (P := Tryz.prog) w 36 36 ty 3 g o dLen dCap a sLen sCap (List.replicate m (.int .i64 v)) Tryz.underlying36 (by rw [hi]; simp [hz1]) (by simp [hm])
    (fun j u hj => by
      rw [List.getElem?_replicate] at hj
      split at hj
      · injection hj with hj; rw [← hj]; exact hsrc j (by assumption)
      · cases hj)
    (fun j hj => by rw [List.length_replicate] at hj; rw [hB.cell _ (by omega)]; rfl)
    (fun j _ => hB.fr _)
    (fun u hu => by rw [List.eq_of_mem_replicate hu]; rfl)
  rw [List.length_replicate] at h
  exact h
set_option maxRecDepth 100000 in
theorem oper_copyB {o : Oper} {a : Act} {w : World} {K : World → Act → Prop} (d s : Operand)
    (ho : o.op = .call { callee := .builtin .copy, args := #[d, s], argTypes := #[36, 36] }) (g n off dLen dCap : Nat) (f : Nat → Value) (hB : BlkF w g n f) (ad : Addr) (sLen sCap : Nat) (v : Int) (m : Nat)
    (hd : a.eval d = .slice (some ⟨g, off, none⟩) dLen dCap) (hs : a.eval s = .slice (some ad) sLen sCap) (hm : m = Nat.min sLen dLen) (hoff : off + m ≤ n)
    (hsrc : ∀ j, j < m → w.cell? (ad.add j) = some (.int .i64 v))
    (h : K (w.setCells g off (List.replicate m (.int .i64 v))) (a.put o.dst (.int .i64 (m : Int)))) : o.wp Tryz.prog a w (fun a' w' => K w' a') NoExit := by
  have hrun := run_copyB w o.type g n off dLen dCap f hB ad sLen sCap v m hm hoff hsrc
  unfold Oper.wp
  simp [execOp, ho, resolve, invoke, builtin, hd, hs, hrun, Result.andThen]
  exact h

set_option maxRecDepth 100000 in
set_option maxHeartbeats 4000000 in
theorem mul_small (w : World) (n : Int) (h1 : 1 ≤ n) (h5 : n ≤ 5) :
    Calls Tryz.prog 139 #[.int .u64 1, .int .u64 n] w fun e w' => e = .returned (.tuple #[.int .u64 0, .int .u64 n]) ∧ Ext w w' := by
  have : n = 1 ∨ n = 2 ∨ n = 3 ∨ n = 4 ∨ n = 5 := by omega
  rcases this with rfl | rfl | rfl | rfl | rfl
  all_goals
    go_enter Tryz.func139, Tryz.ntmps139
    go_wp2
    refine bodyPost_ret (results_tmp2 Tryz.results139 _ _ _) rfl ⟨?_, Ext.refl _⟩
    kernel_rfl

set_option maxRecDepth 100000 in
set_option maxHeartbeats 4000000 in
theorem rep_impl (w : World) (b off c : Nat) (v : Int) (n : Nat) (h1 : 1 ≤ n) (h5 : n ≤ 5) (hc : w.cell? ⟨b, off, none⟩ = some (.int .i64 v)) :
    Calls Tryz.prog 89 #[.slice (some ⟨b, off, none⟩) 1 c, .int .i64 n] w fun e w' => ∃ g, e = .returned (.slice (some ⟨g, 0, none⟩) n n) ∧ w.heap.size ≤ g ∧ BlkF w' g n (fun _ => .int .i64 v) ∧ Ext w w' := by
  obtain ⟨i0, hi, hz0, hz1, hz2⟩ := info_parts info_int
  have hmk := fun W => run_make_rowN (P := Tryz.prog) 36 3 i0 _ Tryz.underlying36 hi hz0 .i64 .i64 n n (Nat.le_refl _) (by rw [hz2]; omega) (by omega) W
  rw [hz1, Nat.mul_one] at hmk
  go_enter Tryz.func89, Tryz.ntmps89
  go_wp2_with (go_at_call 139; refine (mul_small _ _ (by omega) (by omega)).mono ?_; rintro e w1 ⟨rfl, hw1⟩)
  have hB0 := BlkF.new w1 (madeCells #[.int .i64 0] n) 3
  rw [size_madeCells] at hB0
  have hE0 := Ext.new w1 (.cells (madeCells #[.int .i64 0] n) 3)
  rw [run_copyB _ _ w1.heap.size n 0 n n _ hB0 ⟨b, off, none⟩ 1 c v 1 (by show 1 = min 1 n; omega) (by omega) (fun j hj => by
    obtain rfl : j = 0 := by omega
    exact hE0.keep (hw1.keep (by simpa [Addr.add] using hc)))]
  have hB1 := BlkF.setCells (List.replicate 1 (.int .i64 v)) _ _ 0 hB0 (by simp; omega)
  have hE1 := Ext.setCells (Nat.le_refl w1.heap.size) (List.replicate 1 (.int .i64 v)) _ 0 hE0
  obtain ⟨W0, hW0⟩ : ∃ W0 : World, W0 = (w1.alloc (.cells (madeCells #[.int .i64 0] n) 3)).setCells w1.heap.size 0 (List.replicate 1 (.int .i64 v)) := ⟨_, rfl⟩
  rw [← hW0] at hB1 hE1 ⊢
  clear hW0 hB0 hE0 hmk
  have hw : Ext w w1 := hw1
  have hB2 := hB1.congr (f' := fun x => if x < 1 then .int .i64 v else .int .i64 0) (fun x hx => by
    by_cases e : x = 0
    · subst e; simp
    · have e1 : ¬ (0 ≤ x ∧ x < 0 + (List.replicate 1 (Value.int .i64 v)).length) := by simp; omega
      have e2 : ¬ x < 1 := by omega
      rw [if_neg e1, if_neg e2]
      exact made_int n x hx)
  clear hB1
  obtain ⟨wb, hwb⟩ : ∃ wb : World, wb = w1 := ⟨_, rfl⟩
  subst hwb
  go_wp2
  go_loopw [8] (fun i wr => ∃ k : Nat, 1 ≤ k ∧ k ≤ n ∧ i = .int .i64 k ∧ BlkF wr wb.heap.size n (fun x => if x < k then .int .i64 v else .int .i64 0) ∧ Ext wb wr) (fun i _ => n - (intOf i).toNat)
  case atStart => exact ⟨1, Nat.le_refl _, h1, rfl, hB2, hE1⟩
  case round =>
    clear hB2 hE1
    obtain ⟨k, hk1, hk, rfl, hB, hwr⟩ := hrel
    by_cases hlt : k < n
    · have hne : ¬ n = k := by omega
      obtain ⟨m, hm⟩ : ∃ m : Nat, m = min k (n - k) := ⟨_, rfl⟩
      have hm1 : 1 ≤ m := by omega
      have hm2 : k + m ≤ n := by omega
      have hm3 : m ≤ k := by omega
      have y1 : wrap64 ((k : Int) + (m : Int)) = ((k + m : Nat) : Int) := by rw [IntWalk.wrap64_in _ (by omega)]; omega
      have y2 : IntKind.i64.wrap ((k : Int) + (m : Int)) = ((k + m : Nat) : Int) := by rw [IntWalk.i64_left]; exact y1
      have HM := hide hm
      clear hm
      go_wp2
      refine wp_region_X (by kernel_rfl) (by kernel_rfl) ?_
      repeat' (refine wpX_stepQ (fun K hK => ?_)
               go_simp
               try (rw [if_neg (by intro h; simp [undef] at h)])
               try split
               all_goals
                 first
                 | (refine hK _ ?_
                    clear hK K)
                 | (apply Exists.intro
                    refine ⟨fun wq hwq => ?_, hK _ ?_⟩
                    · have hcq := hwq.cellS
                      go_simp
                      first
                      | exact ⟨Ext.refl _, rfl⟩
                    clear hK K))
      refine wpX_stepC rfl (by kernel_rfl) (fun K hK wa hwa => ?_)
      refine Eq.mpr (if_pos rfl) ?_
      have hBa := hB.ext hwa
      refine oper_copyB _ _ rfl wb.heap.size n k (n - k) (n - k) _ hBa ⟨wb.heap.size, 0, none⟩ k n v m rfl rfl HM.out hm2 (fun j hj => ?_) ?_
      · have e1 : Addr.add ⟨wb.heap.size, 0, none⟩ j = ⟨wb.heap.size, j, none⟩ := by unfold Addr.add; split <;> simp_all
        rw [e1, hBa.cell j (by omega), if_pos (by omega)]
      refine hK _ _ ?_
      clear hK K
      have hBc := BlkF.setCells (List.replicate m (.int .i64 v)) _ _ k hBa (by simp; omega)
      have hEc := Ext.setCells (Nat.le_refl wb.heap.size) (List.replicate m (.int .i64 v)) _ k (hwr.trans hwa)
      have hBd := hBc.congr (f' := fun x => if x < k + m then .int .i64 v else .int .i64 0) (fun x hx => by
        rw [List.length_replicate]
        by_cases e1 : k ≤ x ∧ x < k + m
        · rw [if_pos e1, if_pos (by omega), List.getD_eq_getElem?_getD, List.getElem?_replicate, if_pos (by omega)]; rfl
        · rw [if_neg e1]
          by_cases e2 : x < k
          · rw [if_pos e2, if_pos (by omega)]
          · rw [if_neg e2, if_neg (by omega)])
      clear hBc hBa
      generalize wa.setCells wb.heap.size k (List.replicate m (.int .i64 v)) = W1 at hBd hEc ⊢
      repeat' (refine wpX_stepQ (fun K hK => ?_)
               go_simp
               try (rw [if_neg (by intro h; simp [undef] at h)])
               try split
               all_goals
                 first
                 | (refine hK _ ?_
                    clear hK K)
                 | (apply Exists.intro
                    refine ⟨fun wq hwq => ?_, hK _ ?_⟩
                    · have hcq := hwq.cellS
                      go_simp
                      first
                      | exact ⟨Ext.refl _, rfl⟩
                    clear hK K))
      refine wpX_nil (fun wz hwz => ?_)
      go_wp2
      exact ⟨⟨k + m, by omega, by omega, rfl, hBd.ext hwz, hEc.trans hwz⟩, by simp [intOf]; omega⟩
    · have hkn : k = n := by omega
      go_wp2
      go_ret
      exact ⟨_, rfl, hw.size, hB.congr (fun x hx => by rw [if_pos (by omega)]), hw.trans hwr⟩

def allV (vs : List Vt) : Int := sumV (fun _ => true) vs
def minTo (vs : List Vt) (V : Int) (i : Nat) : Nat → Int
  | 0 => V
  | m + 1 => if i = m then minTo vs V i m else min (minTo vs V i m) (pairV vs i m)
set_option maxRecDepth 100000 in
theorem min_if (x y : Int) : (if y < x then y else x) = min x y := by split <;> omega
set_option maxRecDepth 100000 in
theorem minTo_bd {sz : Int} {vs : List Vt} (hS : SmallV sz vs) (i : Nat) : ∀ m, 0 ≤ minTo vs (allV vs) i m ∧ minTo vs (allV vs) i m ≤ 24000
  | 0 => by unfold minTo; exact sumV_bd' hS
  | m + 1 => by
    have h1 := minTo_bd hS i m
    have h2 : 0 ≤ pairV vs i m ∧ pairV vs i m ≤ 24000 := sumV_bd' hS
    unfold minTo
    split
    · exact h1
    · omega
def maxiO (sz : Int) (vs : List Vt) : List Int := if profOk sz vs then rowL sz.toNat (fun i => minTo vs (allV vs) i sz.toNat) else []
set_option maxRecDepth 100000 in
theorem maxiO_len (sz : Int) (vs : List Vt) : (maxiO sz vs).length ≤ 5 := by
  unfold maxiO
  cases h0 : profOk sz vs
  · simp
  · obtain ⟨n, rfl, n1, n2⟩ := prof_nat h0
    simp [rowL_len]; omega

set_option maxRecDepth 100000 in
set_option maxHeartbeats 1000000 in
theorem trueF (w : World) (a : Value) : Calls Tryz.prog 141 #[a] w fun e w' => e = .returned (.bool true) ∧ Ext w w' := by
  go_enter Tryz.func141, Tryz.ntmps141
  go_wp2
  go_ret
  exact ⟨rfl, Ext.refl _⟩
set_option maxRecDepth 100000 in
set_option maxHeartbeats 1000000 in
theorem count_impl (w : World) (sz : Int) (a : Option Addr) (c : Nat) (vs : List Vt) (hR : RdV w a vs) :
    Calls Tryz.prog 90 #[.agg #[.int .i64 sz, .slice a vs.length c]] w fun e w' => e = .returned (.int .i64 (if profOk sz vs then allV vs else -1)) ∧ Ext w w' := by
  have q0 := new0 w (.int .i64 sz) [.slice a vs.length c] 29
  have q1 := new1 w (.int .i64 sz) (.slice a vs.length c) [] 29
  cases h0 : profOk sz vs
  · go_enter Tryz.func90, Tryz.ntmps90
    go_wp2_with (go_at_call 36; refine (prof_impl _ _ _ _ _ (hR.ext (by repeat (first | exact Ext.refl _ | assumption | refine Ext.alloc ?_ _ | refine Ext.drew ?_ | refine Ext.trans ?_ (by assumption))))).mono ?_; rintro e w1 ⟨rfl, hw1⟩; have q0 := Ext.keep (w' := w1) (by repeat (first | exact Ext.refl _ | assumption | refine Ext.alloc ?_ _ | refine Ext.drew ?_ | refine Ext.trans ?_ (by assumption))) q0; have q1 := Ext.keep (w' := w1) (by repeat (first | exact Ext.refl _ | assumption | refine Ext.alloc ?_ _ | refine Ext.drew ?_ | refine Ext.trans ?_ (by assumption))) q1)
    go_ret
    exact ⟨ret_int (by simp), (by repeat (first | exact Ext.refl _ | assumption | refine Ext.alloc ?_ _ | refine Ext.drew ?_ | refine Ext.trans ?_ (by assumption)))⟩
  · have HS := hide (prof_small h0)
    go_enter Tryz.func90, Tryz.ntmps90
    go_wp2_with (go_at_call 36; refine (prof_impl _ _ _ _ _ (hR.ext (by repeat (first | exact Ext.refl _ | assumption | refine Ext.alloc ?_ _ | refine Ext.drew ?_ | refine Ext.trans ?_ (by assumption))))).mono ?_; rintro e w1 ⟨rfl, hw1⟩; have q0 := Ext.keep (w' := w1) (by repeat (first | exact Ext.refl _ | assumption | refine Ext.alloc ?_ _ | refine Ext.drew ?_ | refine Ext.trans ?_ (by assumption))) q0; have q1 := Ext.keep (w' := w1) (by repeat (first | exact Ext.refl _ | assumption | refine Ext.alloc ?_ _ | refine Ext.drew ?_ | refine Ext.trans ?_ (by assumption))) q1)
    refine (votersV 141 #[] #[] (fun _ => true) _ sz _ _ vs (hR.ext (by repeat (first | exact Ext.refl _ | assumption | refine Ext.alloc ?_ _ | refine Ext.drew ?_ | refine Ext.trans ?_ (by assumption)))) HS.out Tryz.call141 (fun x a' c' w' _ _ _ _ => trueF _ _)).mono ?_
    rintro e w2 ⟨rfl, hw2⟩
    go_wp2
    go_ret
    exact ⟨ret_int (by simp [allV]), (by repeat (first | exact Ext.refl _ | assumption | refine Ext.alloc ?_ _ | refine Ext.drew ?_ | refine Ext.trans ?_ (by assumption)))⟩

def tabM (vs : List Vt) (n i m o : Nat) : Int := if o < i then minTo vs (allV vs) o n else if o = i then minTo vs (allV vs) i m else allV vs
set_option maxRecDepth 100000 in
theorem tabM_zero (vs : List Vt) (n o : Nat) : tabM vs n 0 0 o = allV vs := by
  unfold tabM; rw [if_neg (by omega)]; split
  · rename_i h; subst h; rfl
  · rfl
set_option maxRecDepth 100000 in
theorem tabM_at (vs : List Vt) (n i m : Nat) : tabM vs n i m i = minTo vs (allV vs) i m := by
  unfold tabM; rw [if_neg (by omega), if_pos rfl]
set_option maxRecDepth 100000 in
theorem tabM_far (vs : List Vt) (n i m m' : Nat) {o : Nat} (h : o ≠ i) : tabM vs n i m o = tabM vs n i m' o := by
  unfold tabM; rw [if_neg h, if_neg h]
set_option maxRecDepth 100000 in
theorem tabM_done (vs : List Vt) (n i o : Nat) : tabM vs n i n o = tabM vs n (i + 1) 0 o := by
  unfold tabM
  by_cases h1 : o < i
  · rw [if_pos h1, if_pos (by omega)]
  · by_cases h2 : o = i
    · subst h2; rw [if_neg h1, if_pos rfl, if_pos (by omega)]
    · rw [if_neg h1, if_neg h2, if_neg (by omega)]; split
      · rename_i h; subst h; rfl
      · rfl

set_option maxRecDepth 100000 in
set_option maxHeartbeats 4000000 in
theorem maxi_impl (w : World) (sz : Int) (a : Option Addr) (c : Nat) (vs : List Vt) (hR : RdV w a vs) :
    Calls Tryz.prog 43 #[.agg #[.int .i64 sz, .slice a vs.length c]] w fun e w' => ∃ v, e = .returned v ∧ WrI w' w.heap.size v (maxiO sz vs) ∧ Ext w w' := by
  have q0 := new0 w (.int .i64 sz) [.slice a vs.length c] 29
  have q1 := new1 w (.int .i64 sz) (.slice a vs.length c) [] 29
  cases h0 : profOk sz vs
  · go_enter Tryz.func43, Tryz.ntmps43
    go_wp2_with (go_at_call 36; refine (prof_impl _ _ _ _ _ (hR.ext (by repeat (first | exact Ext.refl _ | assumption | refine Ext.alloc ?_ _ | refine Ext.drew ?_ | refine Ext.trans ?_ (by assumption))))).mono ?_; rintro e w1 ⟨rfl, hw1⟩; have q0 := Ext.keep (w' := w1) (by repeat (first | exact Ext.refl _ | assumption | refine Ext.alloc ?_ _ | refine Ext.drew ?_ | refine Ext.trans ?_ (by assumption))) q0; have q1 := Ext.keep (w' := w1) (by repeat (first | exact Ext.refl _ | assumption | refine Ext.alloc ?_ _ | refine Ext.drew ?_ | refine Ext.trans ?_ (by assumption))) q1)
    go_ret
    exact ⟨_, rfl, by simp [maxiO, h0]; exact WrI.nil _ _ _ _, (by repeat (first | exact Ext.refl _ | assumption | refine Ext.alloc ?_ _ | refine Ext.drew ?_ | refine Ext.trans ?_ (by assumption)))⟩
  obtain ⟨n, rfl, n1, n2⟩ := prof_nat h0
  have HS := hide (prof_small h0)
  go_enter Tryz.func43, Tryz.ntmps43
  go_wp2_with (go_at_call 36; refine (prof_impl _ _ _ _ _ (hR.ext (by repeat (first | exact Ext.refl _ | assumption | refine Ext.alloc ?_ _ | refine Ext.drew ?_ | refine Ext.trans ?_ (by assumption))))).mono ?_; rintro e w1 ⟨rfl, hw1⟩; have q0 := Ext.keep (w' := w1) (by repeat (first | exact Ext.refl _ | assumption | refine Ext.alloc ?_ _ | refine Ext.drew ?_ | refine Ext.trans ?_ (by assumption))) q0; have q1 := Ext.keep (w' := w1) (by repeat (first | exact Ext.refl _ | assumption | refine Ext.alloc ?_ _ | refine Ext.drew ?_ | refine Ext.trans ?_ (by assumption))) q1)
  refine wp_region_O [0, 1, 3, 4, 2, 5, 6] (by kernel_rfl) rfl (by kernel_rfl) ?_
  repeat' (refine wpO_stepQ rfl (fun K hK => ?_)
           go_simp
           try (rw [if_neg (by intro h; simp [undef] at h)])
           try split
           all_goals
             first
             | (refine hK _ ?_
                clear hK K)
             | (apply Exists.intro
                refine ⟨fun wq hwq => ?_, hK _ ?_⟩
                · have hcq := hwq.cellS
                  go_simp
                  first
                  | exact ⟨Ext.refl _, rfl⟩
                  | exact ⟨Ext.refl _, count_impl _ _ _ _ _ (hR.ext (by repeat (first | exact Ext.refl _ | assumption | refine Ext.alloc ?_ _ | refine Ext.drew ?_ | refine Ext.trans ?_ (by assumption))))⟩
                clear hK K))
  refine wpO_stepS rfl (by kernel_rfl) (fun K hK wq hwq => ?_)
  go_simp
  refine ⟨(by repeat (first | exact Ext.refl _ | assumption | refine Ext.alloc ?_ _ | refine Ext.drew ?_ | refine Ext.trans ?_ (by assumption))), hK _ _ ?_⟩
  clear hK K
  refine wpO_stepS rfl (by kernel_rfl) (fun K hK wq hwq => ?_)
  go_simp
  refine (rep_impl _ _ _ _ _ n n1 n2 (Ext.keep hwq (new0 _ _ _ _))).mono ?_
  rintro e w3 ⟨g, rfl, hg, hB, hw3⟩
  refine ⟨hw3, hK _ _ ?_⟩
  clear hK K
  repeat' (refine wpO_stepQ rfl (fun K hK => ?_)
           go_simp
           try (rw [if_neg (by intro h; simp [undef] at h)])
           try split
           all_goals
             first
             | (refine hK _ ?_
                clear hK K)
             | (apply Exists.intro
                refine ⟨fun wq hwq => ?_, hK _ ?_⟩
                · have hcq := hwq.cellS
                  go_simp
                  first
                  | exact ⟨Ext.refl _, rfl⟩
                clear hK K))
  refine wpO_nil (fun wz hwz => ?_)
  have hw : Ext w w1 := (by repeat (first | exact Ext.refl _ | assumption | refine Ext.alloc ?_ _ | refine Ext.drew ?_ | refine Ext.trans ?_ (by assumption)))
  have hwb : Ext w1 wz := (by repeat (first | exact Ext.refl _ | assumption | refine Ext.alloc ?_ _ | refine Ext.drew ?_ | refine Ext.trans ?_ (by assumption)))
  have hgw : w1.heap.size ≤ g := Nat.le_trans (Ext.size (show Ext w1 wq from (by repeat (first | exact Ext.refl _ | assumption | refine Ext.alloc ?_ _ | refine Ext.drew ?_ | refine Ext.trans ?_ (by assumption))))) hg
  have hB := (hB.ext hwz).congr (f' := fun o => .int .i64 (tabM vs n 0 0 o)) (fun o ho => by rw [tabM_zero])
  have hR0 := hR.ext hw
  clear hwz hw3 hwq hg
  obtain ⟨wb, hwbe⟩ : ∃ wb : World, wb = w1 := ⟨_, rfl⟩
  subst hwbe
  go_wp2
  go_loopw [4, 5, 17, 21, 22] (fun _ _ i _ _ wr => ∃ k : Nat, k ≤ n ∧ i = .int .i64 k ∧ BlkF wr g n (fun o => .int .i64 (tabM vs n k 0 o)) ∧ Ext wb wr) (fun _ _ i _ _ _ => n - (intOf i).toNat)
  case atStart => exact ⟨0, Nat.zero_le _, rfl, hB, hwb⟩
  case round =>
    clear hB hwb
    obtain ⟨i, hi, rfl, hB, hwr⟩ := hrel
    have r0 := hwr.keep q0
    by_cases hit : i < n
    · go_wp2
      go_loopw [5, 22] (fun _ m wr => ∃ k : Nat, k ≤ n ∧ m = .int .i64 k ∧ BlkF wr g n (fun o => .int .i64 (tabM vs n i k o)) ∧ Ext wb wr) (fun _ m _ => n - (intOf m).toNat)
      case atStart => exact ⟨0, Nat.zero_le _, rfl, hB, hwr⟩
      case round =>
        clear hB hwr r0
        obtain ⟨m, hm, rfl, hB, hwr⟩ := hrel
        have r0 := hwr.keep q0
        have r1 := hwr.keep q1
        by_cases hlt : m < n
        · by_cases e : i = m
          · have e' : (i : Int) = (m : Int) := by omega
            have HB := hide hB
            clear hB
            go_wp2
            refine ⟨⟨m + 1, by omega, by go_num, HB.out.congr (fun o _ => ?_), (by repeat (first | exact Ext.refl _ | assumption | refine Ext.alloc ?_ _ | refine Ext.drew ?_ | refine Ext.trans ?_ (by assumption)))⟩, by simp [intOf]; omega⟩
            by_cases e2 : o = i
            · subst e2; rw [tabM_at, tabM_at, minTo, if_pos e]
            · rw [tabM_far vs n i m (m + 1) e2]
          · have e' : ¬ (i : Int) = (m : Int) := by omega
            have d0 := hB.cell i hit
            rw [tabM_at] at d0
            have z0 := hB.fr i
            have HB := hide hB
            clear hB
            go_wp2
            refine wp_region_X (by kernel_rfl) (by kernel_rfl) ?_
            repeat' (refine wpX_stepQ (fun K hK => ?_)
                     go_simp
                     try (rw [if_neg (by intro h; simp [undef] at h)])
                     try split
                     all_goals
                       first
                       | (refine hK _ ?_
                          clear hK K)
                       | (apply Exists.intro
                          refine ⟨fun wq hwq => ?_, hK _ ?_⟩
                          · have hcq := hwq.cellS
                            go_simp
                            first
                            | exact ⟨Ext.refl _, rfl⟩
                            | exact ⟨Ext.refl _, pairI_impl _ _ _ _ _ _ _ (hR0.ext (by repeat (first | exact Ext.refl _ | assumption | refine Ext.alloc ?_ _ | refine Ext.drew ?_ | refine Ext.trans ?_ (by assumption)))) HS.out⟩
                          clear hK K))
            all_goals
              refine wpX_stepL rfl (by kernel_rfl) (by kernel_rfl) (by kernel_rfl) (fun K hK wz hwz => ?_)
              have hcz := hwz.cellS
              have hfz := hwz.frozenS
              go_simp
              refine hK _ _ ?_
              clear hK K
              go_wp2
              refine ⟨⟨m + 1, by omega, by go_num, ((HB.out.ext hwz).set i hit _).congr (fun o _ => ?_), Ext.setCell (Ext.trans hwr hwz) (by omega) _⟩, by simp [intOf]; omega⟩
              by_cases e2 : o = i
              · subst e2; rw [if_pos rfl, tabM_at, minTo, if_neg e, ← min_if]; first | rw [if_pos (by assumption)] | rw [if_neg (by omega)]
              · rw [if_neg e2, tabM_far vs n i m (m + 1) e2]
        · have hmn : m = n := by omega
          go_wp2
          exact ⟨⟨i + 1, by omega, by go_num, hB.congr (fun o _ => by rw [hmn, tabM_done]), hwr⟩, by simp [intOf]; omega⟩
    · have hin : i = n := by omega
      go_wp2
      go_ret
      have he : maxiO n vs = rowL n (fun i => minTo vs (allV vs) i n) := by simp [maxiO, h0]
      rw [he]
      refine ⟨_, rfl, hB.wrI (rowL_len _ _) (fun j x hx => ?_) (Nat.le_trans hw.size hgw) (Nat.le_refl _), hw.trans hwr⟩
      obtain ⟨hj, rfl⟩ := rowL_val hx
      simp only [tabM, hin, if_pos hj]

def countO (sz : Int) (vs : List Vt) : Int := if profOk sz vs then allV vs else -1
set_option maxRecDepth 100000 in
theorem count_impl' (w : World) (sz : Int) (a : Option Addr) (c : Nat) (vs : List Vt) (hR : RdV w a vs) :
    Calls Tryz.prog 90 #[.agg #[.int .i64 sz, .slice a vs.length c]] w fun e w' => e = .returned (.int .i64 (countO sz vs)) ∧ Ext w w' := count_impl w sz a c vs hR

end Go.Proofs.YtilcdnkkabmbfaaGreat
