/- Weights of places, and the scores of a profile by them (the program's side). Maximin scores. The number of voters. A candidate with a majority of first places. Weights of places and the scores by them, of the spec. Copeland's scores. The ranking by scores, of the spec. -/
import Derived.Test.YtfmeklgdaabooaaGreatDoorCn4
import Derived.Test.YtfmeklgdaabooaaGreatDoorCn5
import Derived.Test.YtfmeklgdaabooaaGreatDoorCn6
import Derived.Test.YtfmeklgdaabooaaGreatDoorCn8
import Derived.Test.YtfmeklgdaabooaaGreatDoorCn7
namespace Go.Proofs.YtfmeklgdaabooaaGreatDoor
open Go.RowKit

/-- Weights that may be given to n places. -/
def GoodW (f : Nat → Int) : Prop := (∀ j, 0 ≤ f j ∧ f j ≤ 100) ∧ ∀ j, f (j + 1) ≤ f j

set_option maxRecDepth 100000 in
set_option maxHeartbeats 1000000 in
theorem weightsOf_impl (K : Nat) (cap : Array Value) (f : Nat → Int) (w : World) (n : Nat) (n1 : 1 ≤ n) (n2 : n ≤ 5) (hK : Enters Tryz.prog K)
    (hf : ∀ (j : Nat) (w' : World), j < n → Ext w w' → Calls Tryz.prog K (#[.int .i64 j] ++ cap) w' fun e w'' => e = .returned (.int .i64 (f j)) ∧ Ext w' w'') :
    Calls Tryz.prog 68 #[.int .i64 n, .func (.func K) #[] cap] w fun e w' => ∃ v, e = .returned v ∧ OwnI w' w.heap.size v (rowL n f) ∧ Ext w w' := by
  unfold Enters at hK
  have HF := hide hf
  clear hf
  have hin : inR (n : Int) 1 5 = true := inR_iff.2 (by omega)
  go_enter Tryz.func68, Tryz.ntmps68
  go_wp2_with (go_at_call 26; refine (in_impl _ _ _ _).mono ?_; rintro e w1 ⟨rfl, hw1⟩)
  have hw : Ext w w1 := hw1
  clear hw1
  go_loopw [5, 6, 11] (fun v _ i wr => ∃ k : Nat, k ≤ n ∧ i = .int .i64 k ∧ OwnI wr w.heap.size v (rowL k f) ∧ Ext w wr) (fun _ _ i _ => n - (intOf i).toNat)
  case atStart => exact ⟨0, Nat.zero_le _, rfl, OwnI.nil _ _, hw⟩
  case round =>
    obtain ⟨k, hk, rfl, hown, hwr⟩ := hrel
    have hrl := rowL_len k f
    by_cases hlt : k < n
    · go_wp2_with fail
      refine (HF.out k wr hlt hwr).mono ?_
      rintro e w1 ⟨rfl, hw1⟩
      go_wp2_with (at_builtin; refine wpList_appI w _ rfl _ _ rfl _ (rowL k f) _ rfl (hown.ext (by repeat (first | exact Ext.refl _ | assumption | refine Ext.alloc ?_ _ | refine Ext.drew ?_ | refine Ext.trans ?_ (by assumption)))) (by repeat (first | exact Ext.refl _ | assumption | refine Ext.alloc ?_ _ | refine Ext.drew ?_ | refine Ext.trans ?_ (by assumption))) rfl (by omega) ?_; intro v' w3 hown3 hw3)
      exact ⟨⟨k + 1, by omega, by go_num, by rw [rowL_succ]; exact hown3, (by repeat (first | exact Ext.refl _ | assumption | refine Ext.alloc ?_ _ | refine Ext.drew ?_ | refine Ext.trans ?_ (by assumption)))⟩, by simp [intOf]; omega⟩
    · have hkn : k = n := by omega
      go_wp2
      go_ret
      rw [hkn] at hown
      exact ⟨_, rfl, hown, hwr⟩

set_option maxRecDepth 100000 in
set_option maxHeartbeats 1000000 in
theorem sortOne (w : World) (x y : Int) (hx : 0 ≤ x ∧ x ≤ 100) (hy : 0 ≤ y ∧ y ≤ 100) :
    Calls Tryz.prog 130 #[.int .i64 x, .int .i64 y] w fun e w' => e = .returned (.int .i64 (y - x)) ∧ Ext w w' := by
  go_enter Tryz.func130, Tryz.ntmps130
  go_wp2
  go_ret
  exact ⟨rfl, (by repeat (first | exact Ext.refl _ | assumption | refine Ext.alloc ?_ _ | refine Ext.drew ?_ | refine Ext.trans ?_ (by assumption)))⟩

set_option maxRecDepth 100000 in
set_option maxHeartbeats 1000000 in
theorem sorted_impl (w : World) (a : Option Addr) (c n : Nat) (f : Nat → Int) (hR : RdI w a (rowL n f)) (n1 : 1 ≤ n) (n2 : n ≤ 5) (hf : GoodW f) :
    Calls Tryz.prog 129 #[.slice a n c, .func (.func 130) #[] #[]] w fun e w' => e = .returned (.bool true) ∧ Ext w w' := by
  have hK := Tryz.call130
  have HF := hide hf
  clear hf
  go_enter Tryz.func129, Tryz.ntmps129
  go_wp2_with fail
  go_loopw [5] (fun i wr => ∃ k : Nat, k + 1 ≤ n ∧ i = .int .i64 k ∧ Ext w wr) (fun i _ => (intOf i).toNat)
  case atStart => exact ⟨n - 1, by omega, by go_num, Ext.refl _⟩
  case round =>
    obtain ⟨k, hk, rfl, hwr⟩ := hrel
    by_cases hlt : 0 < k
    · obtain ⟨m, hm⟩ : ∃ m : Nat, k = m + 1 := ⟨k - 1, by omega⟩
      subst hm
      obtain ⟨b, off, rfl, c0⟩ := (hR.ext hwr).at_ (rowL_at (f := f) (show m + 1 < n by omega))
      obtain ⟨b2, off2, hb, c1⟩ := (hR.ext hwr).at_ (rowL_at (f := f) (show m < n by omega))
      injection hb with hb
      injection hb with hb hb2
      subst hb
      subst hb2
      have e1 := HF.out.1 m
      have e2 := HF.out.1 (m + 1)
      have e3 := HF.out.2 m
      have y1 : wrap64 ((m : Int) + 1 - 1) = m := by rw [IntWalk.wrap64_in _ (by omega)]; omega
      have y2 : IntKind.i64.wrap ((m : Int) + 1 - 1) = m := by rw [IntWalk.i64_left]; exact y1
      have y3 : wrap64 (m : Int) = m := IntWalk.wrap64_in _ (by omega)
      have y4 : IntKind.i64.wrap (m : Int) = m := IntWalk.i64_in _ (by omega)
      have i1 : (m : Int) + 1 < (n : Int) := by omega
      have i2 : (0 : Int) ≤ (m : Int) + 1 := by omega
      have i3 : ((m : Int) + 1).toNat = m + 1 := by omega
      have i4 : m < n := by omega
      go_wp2
      refine wp_region_X (by kernel_rfl) (by kernel_rfl) ?_
      repeat' (refine wpX_stepQ (fun K hK => ?_)
               go_simp
               try (rw [if_neg (by intro h; simp [undef] at h)])
               try split
               all_goals
                 first
                 | (refine hK _ ?_
                    clear hK K)
                 | (apply Exists.intro
                    refine ⟨fun wq hwq => ?_, hK _ ?_⟩
                    · have hcq := hwq.cellS
                      go_simp
                      first
                      | exact ⟨Ext.refl _, rfl⟩
                      | exact ⟨Ext.refl _, sortOne _ _ _ e2 e1⟩
                    clear hK K))
      refine wpX_nil (fun wz hwz => ?_)
      go_wp2
      exact ⟨⟨m, by omega, by go_num, hwr.trans hwz⟩, by simp [intOf]⟩
    · have hk0 : k = 0 := by omega
      go_wp2
      go_ret
      exact ⟨rfl, hwr⟩

set_option maxRecDepth 100000 in
theorem good_all {n : Nat} {f : Nat → Int} (h : GoodW f) : (rowL n f).all (fun x => inR x 0 100) = true := by
  rw [List.all_eq_true]
  intro x hx
  obtain ⟨j, hj⟩ := List.mem_iff_getElem?.1 hx
  obtain ⟨_, rfl⟩ := rowL_val hj
  exact inR_iff.2 (h.1 j)

set_option maxRecDepth 100000 in
set_option maxHeartbeats 1000000 in
theorem wOk_impl (w : World) (a : Option Addr) (c n : Nat) (f : Nat → Int) (hR : RdI w a (rowL n f)) (n1 : 1 ≤ n) (n2 : n ≤ 5) (hf : GoodW f) :
    Calls Tryz.prog 105 #[.int .i64 n, .slice a n c] w fun e w' => e = .returned (.bool true) ∧ Ext w w' := by
  have HF := hide hf
  have hin : inR (n : Int) 1 5 = true := inR_iff.2 (by omega)
  have HA : Hid (∀ w', Ext w w' → Calls Tryz.prog 128 #[.slice a n c, .int .i64 0, .int .i64 100] w' fun e w'' => e = .returned (.bool true) ∧ Ext w' w'') := fun w' hw' => by
    have h := allIn_impl w' a c (rowL n f) 0 100 (hR.ext hw') (by rw [rowL_len]; omega)
    rw [good_all hf, rowL_len] at h
    exact h
  clear hf
  go_enter Tryz.func105, Tryz.ntmps105
  go_wp2_with (first | (go_at_call 26; refine (in_impl _ _ _ _).mono ?_; rintro e w1 ⟨rfl, hw1⟩) | (go_at_call 128; refine (HA.out _ (by repeat (first | exact Ext.refl _ | assumption | refine Ext.alloc ?_ _ | refine Ext.drew ?_ | refine Ext.trans ?_ (by assumption)))).mono ?_; rintro e w1 ⟨rfl, hw1⟩) | (go_at_call 129; refine (sorted_impl _ a c n f (hR.ext (by repeat (first | exact Ext.refl _ | assumption | refine Ext.alloc ?_ _ | refine Ext.drew ?_ | refine Ext.trans ?_ (by assumption)))) n1 n2 HF.out).mono ?_; rintro e w1 ⟨rfl, hw1⟩))
  go_ret
  exact ⟨rfl, (by repeat (first | exact Ext.refl _ | assumption | refine Ext.alloc ?_ _ | refine Ext.drew ?_ | refine Ext.trans ?_ (by assumption)))⟩

/-- The score of a candidate. -/
def scoV (f : Nat → Int) (vs : List Vt) (a : Nat) : Int := (vs.map fun x => x.2 * f (placeI x.1 a).toNat).sum
set_option maxRecDepth 100000 in
theorem scoV_at {f : Nat → Int} {vs : List Vt} {k : Nat} {x : Vt} (hx : vs[k]? = some x) (a : Nat) : scoV f (vs.take (k + 1)) a = scoV f (vs.take k) a + x.2 * f (placeI x.1 a).toNat := by
  unfold scoV; rw [take_at hx]; simp
set_option maxRecDepth 100000 in
theorem wf_bd {f : Nat → Int} (hf : GoodW f) {x : Vt} (h1 : 1 ≤ x.2) (h2 : x.2 ≤ 1000) (j : Nat) : 0 ≤ x.2 * f j ∧ x.2 * f j ≤ 100000 := by
  have h3 := hf.1 j
  constructor
  · exact Int.mul_nonneg (by omega) h3.1
  · have : x.2 * f j ≤ 1000 * 100 := Int.mul_le_mul h2 h3.2 h3.1 (by decide)
    omega
set_option maxRecDepth 100000 in
theorem scoV_bd {n : Int} {f : Nat → Int} {vs : List Vt} (hS : SmallV n vs) (hf : GoodW f) (a : Nat) : ∀ k, k ≤ vs.length → 0 ≤ scoV f (vs.take k) a ∧ scoV f (vs.take k) a ≤ 100000 * k
  | 0, _ => by simp [scoV]
  | k + 1, hk => by
    obtain ⟨x, hx⟩ := at_of_lt (xs := vs) (k := k) (by omega)
    have h1 := scoV_bd hS hf a k (by omega)
    have h2 := hS.2 x (List.mem_of_getElem? hx)
    have h3 := wf_bd hf h2.2.1 h2.2.2 (placeI x.1 a).toNat
    rw [scoV_at hx]
    omega
/-- The table while vote k is counted over m places. -/
def scoT (f : Nat → Int) (vs : List Vt) (k : Nat) (x : Vt) (m o : Nat) : Int := scoV f (vs.take k) o + if placeI x.1 o < (m : Int) then x.2 * f (placeI x.1 o).toNat else 0

set_option maxRecDepth 100000 in
theorem pluF : GoodW (fun j => if j = 0 then 1 else 0) := ⟨fun j => by dsimp only; split <;> omega, fun j => by dsimp only; split <;> split <;> omega⟩
set_option maxRecDepth 100000 in
theorem plc_sco {n : Nat} {a : Nat} (ha : a < n) : ∀ {vs : List Vt}, SmallV n vs → scoV (fun j => if j = 0 then 1 else 0) vs a = plcV vs a 0
  | [], _ => by simp [scoV, plcV, sumV]
  | x :: vs, hS => by
    have ih := plc_sco ha hS.tail
    obtain ⟨p, hp, hpl, hpa, hpu⟩ := place_at (hS.2 x (by simp)).1 ha
    have e : scoV (fun j => if j = 0 then 1 else 0) (x :: vs) a = x.2 * (if (placeI x.1 a).toNat = 0 then 1 else 0) + scoV (fun j => if j = 0 then 1 else 0) vs a := by simp [scoV]
    have e2 : plcV (x :: vs) a 0 = (if plcP a 0 x.1 then x.2 else 0) + plcV vs a 0 := sumV_cons _ _ _
    rw [e, e2, ih, hpl]
    by_cases h0 : p = 0
    · subst h0; simp [plcP, hpa]
    · have : plcP a 0 x.1 = false := by
        simp only [plcP, beq_eq_false_iff_ne]
        exact fun h => h0 (hpu 0 h).symm
      rw [this]; simp [h0]

set_option maxRecDepth 100000 in
set_option maxHeartbeats 4000000 in
theorem sco_impl (w : World) (sz : Int) (a aw : Option Addr) (c cw : Nat) (vs : List Vt) (f : Nat → Int) (n : Nat) (hz : sz = n) (hR : RdV w a vs) (hW : RdI w aw (rowL n f)) (hf : GoodW f) (h0 : profOk sz vs = true) :
    Calls Tryz.prog 67 #[.agg #[.int .i64 sz, .slice a vs.length c], .slice aw n cw] w fun e w' => ∃ v, e = .returned v ∧ WrI w' w.heap.size v (rowL n (scoV f vs)) ∧ Ext w w' := by
  subst hz
  obtain ⟨m, hm, n1, n2⟩ := prof_nat h0
  have hnm : n = m := by omega
  rw [← hnm] at n1 n2
  clear hm hnm m
  have HS := hide (prof_small h0)
  have HF := hide hf
  clear hf
  have hvl := (prof_small h0).1
  have q0 := new0 w (.int .i64 n) [.slice a vs.length c] 26
  have q1 := new1 w (.int .i64 n) (.slice a vs.length c) [] 26
  obtain ⟨i0, hi, hz0, hz1, hz2⟩ := info_parts info_int
  have hmk := fun W => run_make_rowN (P := Tryz.prog) 28 3 i0 _ Tryz.underlying28 hi hz0 .i64 .i64 n n (Nat.le_refl _) (by rw [hz2]; omega) (by omega) W
  rw [hz1, Nat.mul_one] at hmk
  go_enter Tryz.func67, Tryz.ntmps67
  go_wp2_with (first | (go_at_call 25; refine (prof_impl _ _ _ _ _ (hR.ext (by repeat (first | exact Ext.refl _ | assumption | refine Ext.alloc ?_ _ | refine Ext.drew ?_ | refine Ext.trans ?_ (by assumption))))).mono ?_; rintro e w1 ⟨rfl, hw1⟩; have q0 := Ext.keep (w' := w1) (by repeat (first | exact Ext.refl _ | assumption | refine Ext.alloc ?_ _ | refine Ext.drew ?_ | refine Ext.trans ?_ (by assumption))) q0; have q1 := Ext.keep (w' := w1) (by repeat (first | exact Ext.refl _ | assumption | refine Ext.alloc ?_ _ | refine Ext.drew ?_ | refine Ext.trans ?_ (by assumption))) q1) | (go_at_call 105; refine (wOk_impl _ aw cw n f (hW.ext (by repeat (first | exact Ext.refl _ | assumption | refine Ext.alloc ?_ _ | refine Ext.drew ?_ | refine Ext.trans ?_ (by assumption)))) n1 n2 HF.out).mono ?_; rintro e w1 ⟨rfl, hw1⟩; have q0 := Ext.keep (w' := w1) (by repeat (first | exact Ext.refl _ | assumption | refine Ext.alloc ?_ _ | refine Ext.drew ?_ | refine Ext.trans ?_ (by assumption))) q0; have q1 := Ext.keep (w' := w1) (by repeat (first | exact Ext.refl _ | assumption | refine Ext.alloc ?_ _ | refine Ext.drew ?_ | refine Ext.trans ?_ (by assumption))) q1))
  clear hmk
  have hw : Ext w w1 := (by repeat (first | exact Ext.refl _ | assumption | refine Ext.alloc ?_ _ | refine Ext.drew ?_ | refine Ext.trans ?_ (by assumption)))
  have hR0 := hR.ext hw
  have hW0 := hW.ext hw
  have hB := BlkF.new w1 (madeCells #[.int .i64 0] n) 3
  rw [size_madeCells] at hB
  have hB := hB.congr (f' := fun o => .int .i64 (scoV f (vs.take 0) o)) (fun o ho => by rw [show scoV f (vs.take 0) o = 0 by simp [scoV]]; exact made_int n o ho)
  have h20 := Ext.new w1 (.cells (madeCells #[.int .i64 0] n) 3)
  obtain ⟨wb, hwb⟩ : ∃ wb : World, wb = w1 := ⟨_, rfl⟩
  subst hwb
  have q0 := h20.keep q0
  have q1 := h20.keep q1
  generalize wb.alloc (.cells (madeCells #[.int .i64 0] n) 3) = W0 at hB h20 q0 q1 ⊢
  go_wp2_with fail
  go_loopw [7, 8, 9, 26, 31, 32, 33] (fun _ _ _ i _ _ _ wr => ∃ k : Nat, k ≤ vs.length ∧ i = .int .i64 k ∧ BlkF wr wb.heap.size n (fun o => .int .i64 (scoV f (vs.take k) o)) ∧ Ext wb wr) (fun _ _ _ i _ _ _ _ => vs.length - (intOf i).toNat)
  case atStart => exact ⟨0, Nat.zero_le _, rfl, hB, h20⟩
  case round =>
    clear hB h20
    obtain ⟨k, hk, rfl, hB, hwr⟩ := hrel
    by_cases hlt : k < vs.length
    · obtain ⟨x, hx⟩ := at_of_lt hlt
      obtain ⟨b, off, a', c', rfl, c0, c1, hc', hRx⟩ := hR0.at_ hx
      have c0 := hwr.keep c0
      have c1 := hwr.keep c1
      have hgl := hB.lt
      obtain ⟨x0, x1, x2⟩ := HS.out.2 x (List.mem_of_getElem? hx)
      have hxl := (rk_len x0).1
      have HX0 := hide x0
      have HX := hide hx
      clear hx x0
      have e0 := new0 wr (.slice a' x.1.length c') [.int .i64 x.2] 30
      have e1 := new1 wr (.slice a' x.1.length c') (.int .i64 x.2) [] 30
      have hlen : x.1.length = n := by omega
      rw [hlen] at c0 e0 e1 hc'
      clear hxl hlen
      have hBx := hB.ext (Ext.new wr (.cells #[.slice a' n c', .int .i64 x.2] 30))
      clear hB
      have hB := hBx.congr (f' := fun o => .int .i64 (scoT f vs k x 0 o)) (fun o ho => by
        obtain ⟨p, _, hpl, _⟩ := place_at HX0.out ho
        unfold scoT
        rw [hpl, if_neg (by omega)]; simp)
      clear hBx
      have hE := Ext.new wr (.cells #[.slice a' n c', .int .i64 x.2] 30)
      have c1' := HX.out
      go_wp2_with fail
      clear c0 c1 c1'
      generalize wr.alloc (.cells #[.slice a' n c', .int .i64 x.2] 30) = W1 at hB hE e0 e1 ⊢
      have hwr := hwr.trans hE
      clear hE
      go_loopw [8, 9, 33] (fun _ _ i w2 => ∃ m : Nat, m ≤ n ∧ i = .int .i64 m ∧ BlkF w2 wb.heap.size n (fun o => .int .i64 (scoT f vs k x m o)) ∧ Ext wb w2 ∧ w2.cell? ⟨wr.heap.size, 1, none⟩ = some (.int .i64 x.2)) (fun _ _ i _ => n - (intOf i).toNat)
      case atStart => exact ⟨0, Nat.zero_le _, rfl, hB, hwr, e1⟩
      case round =>
        clear hB hwr e1 e0
        obtain ⟨m, hm, rfl, hB, hwr2, e1⟩ := hrel
        by_cases hmt : m < n
        · obtain ⟨y, hy⟩ := at_of_lt (xs := x.1) (k := m) (by have := (rk_len HX0.out).1; omega)
          have hym := rk_mem HX0.out (List.mem_of_getElem? hy)
          obtain ⟨o, rfl⟩ : ∃ o : Nat, y = o := ⟨y.toNat, by omega⟩
          have ho : o < n := by omega
          obtain ⟨p, hp, hpl, hpa, hpu⟩ := place_at HX0.out ho
          have hpm : p = m := (hpu m hy).symm
          rw [hpm] at hpl hpa
          have hoth : ∀ o', o' < n → o' ≠ o → scoT f vs k x (m + 1) o' = scoT f vs k x m o' := fun o' ho' hne => by
            obtain ⟨p', _, hpl', hpa', _⟩ := place_at HX0.out ho'
            have hne2 : p' ≠ m := fun e => by rw [e, hy] at hpa'; injection hpa' with h; omega
            unfold scoT
            rw [hpl']
            by_cases h1 : p' < m
            · rw [if_pos (by omega), if_pos (by omega)]
            · rw [if_neg (by omega), if_neg (by omega)]
          have hat : scoT f vs k x m o = scoV f (vs.take k) o := by unfold scoT; rw [hpl, if_neg (by omega)]; simp
          have hnx : scoT f vs k x (m + 1) o = scoV f (vs.take k) o + x.2 * f m := by unfold scoT; rw [hpl, if_pos (by omega)]; simp
          obtain ⟨b2, off2, rfl, d2⟩ := (hRx.ext hwr2).at_ hy
          obtain ⟨b3, off3, rfl, d3⟩ := (hW0.ext hwr2).at_ (rowL_at (f := f) hmt)
          have d4 := hB.cell o ho
          rw [hat] at d4
          have z4 := hB.fr o
          obtain ⟨s1, s2⟩ := scoV_bd HS.out HF.out o k hk
          obtain ⟨s3, s4⟩ := wf_bd HF.out x1 x2 m
          have y1 : wrap64 (x.2 * f m) = x.2 * f m := IntWalk.wrap64_in _ (by omega)
          have y2 : IntKind.i64.wrap (x.2 * f m) = x.2 * f m := IntWalk.i64_in _ (by omega)
          have y3 : wrap64 (scoV f (vs.take k) o + x.2 * f m) = scoT f vs k x (m + 1) o := by rw [IntWalk.wrap64_in _ (by omega), hnx]
          have y4 : IntKind.i64.wrap (scoV f (vs.take k) o + x.2 * f m) = scoT f vs k x (m + 1) o := by rw [IntWalk.i64_left]; exact y3
          have HO := hide hoth
          have HB := hide hB
          clear hoth hB hat hnx hpl hpa hpu hpm s1 s2 s3 s4 hy hym
          go_wp2
          refine wp_region_X (by kernel_rfl) (by kernel_rfl) ?_
          repeat' (refine wpX_stepQ (fun K hK => ?_)
                   go_simp
                   try (rw [if_neg (by intro h; simp [undef] at h)])
                   try split
                   all_goals
                     first
                     | (refine hK _ ?_
                        clear hK K)
                     | (apply Exists.intro
                        refine ⟨fun wq hwq => ?_, hK _ ?_⟩
                        · have hcq := hwq.cellS
                          go_simp
                          first
                          | exact ⟨Ext.refl _, rfl⟩
                        clear hK K))
          refine wpX_stepL rfl (by kernel_rfl) (by kernel_rfl) (by kernel_rfl) (fun K hK wz hwz => ?_)
          have hcz := hwz.cellS
          have hfz := hwz.frozenS
          go_simp
          refine hK _ _ ?_
          clear hK K
          go_wp2
          refine ⟨⟨m + 1, by omega, by go_num, ((HB.out.ext hwz).set o ho _).congr (fun o' ho' => ?_), Ext.setCell (hwr2.trans hwz) (Nat.le_refl _) _, ?_⟩, by simp [intOf]; omega⟩
          · by_cases e : o' = o
            · subst e; rw [if_pos rfl]
            · rw [if_neg e, HO.out o' ho' e]
          · rw [World.cell?_setCell_other _ _ _ _ (by simp only [ne_eq, Addr.mk.injEq, not_and]; omega)]
            exact hwz.keep e1
        · have hmn : m = n := by omega
          go_wp2
          refine ⟨⟨k + 1, by omega, by go_num, hB.congr (fun o ho => ?_), hwr2⟩, by simp [intOf]; omega⟩
          obtain ⟨p, hp, hpl, _⟩ := place_at HX0.out ho
          rw [scoV_at HX.out, hmn]
          unfold scoT
          rw [hpl, if_pos (by omega)]
    · have hkl : k = vs.length := by omega
      go_wp2
      go_ret
      refine ⟨_, rfl, hB.wrI (rowL_len _ _) (fun j x hx => ?_) hw.size (Nat.le_refl _), hw.trans hwr⟩
      obtain ⟨hj, rfl⟩ := rowL_val hx
      rw [hkl, List.take_length]

def allV (vs : List Vt) : Int := sumV (fun _ => true) vs
def minTo (vs : List Vt) (V : Int) (i : Nat) : Nat → Int
  | 0 => V
  | m + 1 => if i = m then minTo vs V i m else min (minTo vs V i m) (pairV vs i m)
set_option maxRecDepth 100000 in
theorem min_if (x y : Int) : (if y < x then y else x) = min x y := by split <;> omega
set_option maxRecDepth 100000 in
theorem minTo_bd {sz : Int} {vs : List Vt} (hS : SmallV sz vs) (i : Nat) : ∀ m, 0 ≤ minTo vs (allV vs) i m ∧ minTo vs (allV vs) i m ≤ 24000
  | 0 => by unfold minTo; exact sumV_bd' hS
  | m + 1 => by
    have h1 := minTo_bd hS i m
    have h2 : 0 ≤ pairV vs i m ∧ pairV vs i m ≤ 24000 := sumV_bd' hS
    unfold minTo
    split
    · exact h1
    · omega
def maxiO (sz : Int) (vs : List Vt) : List Int := if profOk sz vs then rowL sz.toNat (fun i => minTo vs (allV vs) i sz.toNat) else []
set_option maxRecDepth 100000 in
theorem maxiO_len (sz : Int) (vs : List Vt) : (maxiO sz vs).length ≤ 5 := by
  unfold maxiO
  cases h0 : profOk sz vs
  · simp
  · obtain ⟨n, rfl, n1, n2⟩ := prof_nat h0
    simp [rowL_len]; omega

set_option maxRecDepth 100000 in
set_option maxHeartbeats 1000000 in
theorem trueF (w : World) (a : Value) : Calls Tryz.prog 109 #[a] w fun e w' => e = .returned (.bool true) ∧ Ext w w' := by
  go_enter Tryz.func109, Tryz.ntmps109
  go_wp2
  go_ret
  exact ⟨rfl, Ext.refl _⟩
set_option maxRecDepth 100000 in
set_option maxHeartbeats 1000000 in
theorem count_impl (w : World) (sz : Int) (a : Option Addr) (c : Nat) (vs : List Vt) (hR : RdV w a vs) :
    Calls Tryz.prog 76 #[.agg #[.int .i64 sz, .slice a vs.length c]] w fun e w' => e = .returned (.int .i64 (if profOk sz vs then allV vs else -1)) ∧ Ext w w' := by
  have q0 := new0 w (.int .i64 sz) [.slice a vs.length c] 26
  have q1 := new1 w (.int .i64 sz) (.slice a vs.length c) [] 26
  cases h0 : profOk sz vs
  · go_enter Tryz.func76, Tryz.ntmps76
    go_wp2_with (go_at_call 25; refine (prof_impl _ _ _ _ _ (hR.ext (by repeat (first | exact Ext.refl _ | assumption | refine Ext.alloc ?_ _ | refine Ext.drew ?_ | refine Ext.trans ?_ (by assumption))))).mono ?_; rintro e w1 ⟨rfl, hw1⟩; have q0 := Ext.keep (w' := w1) (by repeat (first | exact Ext.refl _ | assumption | refine Ext.alloc ?_ _ | refine Ext.drew ?_ | refine Ext.trans ?_ (by assumption))) q0; have q1 := Ext.keep (w' := w1) (by repeat (first | exact Ext.refl _ | assumption | refine Ext.alloc ?_ _ | refine Ext.drew ?_ | refine Ext.trans ?_ (by assumption))) q1)
    go_ret
    exact ⟨ret_int (by simp), (by repeat (first | exact Ext.refl _ | assumption | refine Ext.alloc ?_ _ | refine Ext.drew ?_ | refine Ext.trans ?_ (by assumption)))⟩
  · have HS := hide (prof_small h0)
    go_enter Tryz.func76, Tryz.ntmps76
    go_wp2_with (go_at_call 25; refine (prof_impl _ _ _ _ _ (hR.ext (by repeat (first | exact Ext.refl _ | assumption | refine Ext.alloc ?_ _ | refine Ext.drew ?_ | refine Ext.trans ?_ (by assumption))))).mono ?_; rintro e w1 ⟨rfl, hw1⟩; have q0 := Ext.keep (w' := w1) (by repeat (first | exact Ext.refl _ | assumption | refine Ext.alloc ?_ _ | refine Ext.drew ?_ | refine Ext.trans ?_ (by assumption))) q0; have q1 := Ext.keep (w' := w1) (by repeat (first | exact Ext.refl _ | assumption | refine Ext.alloc ?_ _ | refine Ext.drew ?_ | refine Ext.trans ?_ (by assumption))) q1)
    refine (votersV 109 #[] #[] (fun _ => true) _ sz _ _ vs (hR.ext (by repeat (first | exact Ext.refl _ | assumption | refine Ext.alloc ?_ _ | refine Ext.drew ?_ | refine Ext.trans ?_ (by assumption)))) HS.out Tryz.call109 (fun x a' c' w' _ _ _ _ => trueF _ _)).mono ?_
    rintro e w2 ⟨rfl, hw2⟩
    go_wp2
    go_ret
    exact ⟨ret_int (by simp [allV]), (by repeat (first | exact Ext.refl _ | assumption | refine Ext.alloc ?_ _ | refine Ext.drew ?_ | refine Ext.trans ?_ (by assumption)))⟩

def tabM (vs : List Vt) (n i m o : Nat) : Int := if o < i then minTo vs (allV vs) o n else if o = i then minTo vs (allV vs) i m else allV vs
set_option maxRecDepth 100000 in
theorem tabM_zero (vs : List Vt) (n o : Nat) : tabM vs n 0 0 o = allV vs := by
  unfold tabM; rw [if_neg (by omega)]; split
  · rename_i h; subst h; rfl
  · rfl
set_option maxRecDepth 100000 in
theorem tabM_at (vs : List Vt) (n i m : Nat) : tabM vs n i m i = minTo vs (allV vs) i m := by
  unfold tabM; rw [if_neg (by omega), if_pos rfl]
set_option maxRecDepth 100000 in
theorem tabM_far (vs : List Vt) (n i m m' : Nat) {o : Nat} (h : o ≠ i) : tabM vs n i m o = tabM vs n i m' o := by
  unfold tabM; rw [if_neg h, if_neg h]
set_option maxRecDepth 100000 in
theorem tabM_done (vs : List Vt) (n i o : Nat) : tabM vs n i n o = tabM vs n (i + 1) 0 o := by
  unfold tabM
  by_cases h1 : o < i
  · rw [if_pos h1, if_pos (by omega)]
  · by_cases h2 : o = i
    · subst h2; rw [if_neg h1, if_pos rfl, if_pos (by omega)]
    · rw [if_neg h1, if_neg h2, if_neg (by omega)]; split
      · rename_i h; subst h; rfl
      · rfl

set_option maxRecDepth 100000 in
set_option maxHeartbeats 4000000 in
theorem maxi_impl (w : World) (sz : Int) (a : Option Addr) (c : Nat) (vs : List Vt) (hR : RdV w a vs) :
    Calls Tryz.prog 50 #[.agg #[.int .i64 sz, .slice a vs.length c]] w fun e w' => ∃ v, e = .returned v ∧ WrI w' w.heap.size v (maxiO sz vs) ∧ Ext w w' := by
  have q0 := new0 w (.int .i64 sz) [.slice a vs.length c] 26
  have q1 := new1 w (.int .i64 sz) (.slice a vs.length c) [] 26
  cases h0 : profOk sz vs
  · go_enter Tryz.func50, Tryz.ntmps50
    go_wp2_with (go_at_call 25; refine (prof_impl _ _ _ _ _ (hR.ext (by repeat (first | exact Ext.refl _ | assumption | refine Ext.alloc ?_ _ | refine Ext.drew ?_ | refine Ext.trans ?_ (by assumption))))).mono ?_; rintro e w1 ⟨rfl, hw1⟩; have q0 := Ext.keep (w' := w1) (by repeat (first | exact Ext.refl _ | assumption | refine Ext.alloc ?_ _ | refine Ext.drew ?_ | refine Ext.trans ?_ (by assumption))) q0; have q1 := Ext.keep (w' := w1) (by repeat (first | exact Ext.refl _ | assumption | refine Ext.alloc ?_ _ | refine Ext.drew ?_ | refine Ext.trans ?_ (by assumption))) q1)
    go_ret
    exact ⟨_, rfl, by simp [maxiO, h0]; exact WrI.nil _ _ _ _, (by repeat (first | exact Ext.refl _ | assumption | refine Ext.alloc ?_ _ | refine Ext.drew ?_ | refine Ext.trans ?_ (by assumption)))⟩
  obtain ⟨n, rfl, n1, n2⟩ := prof_nat h0
  have HS := hide (prof_small h0)
  go_enter Tryz.func50, Tryz.ntmps50
  go_wp2_with (go_at_call 25; refine (prof_impl _ _ _ _ _ (hR.ext (by repeat (first | exact Ext.refl _ | assumption | refine Ext.alloc ?_ _ | refine Ext.drew ?_ | refine Ext.trans ?_ (by assumption))))).mono ?_; rintro e w1 ⟨rfl, hw1⟩; have q0 := Ext.keep (w' := w1) (by repeat (first | exact Ext.refl _ | assumption | refine Ext.alloc ?_ _ | refine Ext.drew ?_ | refine Ext.trans ?_ (by assumption))) q0; have q1 := Ext.keep (w' := w1) (by repeat (first | exact Ext.refl _ | assumption | refine Ext.alloc ?_ _ | refine Ext.drew ?_ | refine Ext.trans ?_ (by assumption))) q1)
  refine wp_region_O [0, 1, 3, 4, 2, 5, 6] (by kernel_rfl) rfl (by kernel_rfl) ?_
  repeat' (refine wpO_stepQ rfl (fun K hK => ?_)
           go_simp
           try (rw [if_neg (by intro h; simp [undef] at h)])
           try split
           all_goals
             first
             | (refine hK _ ?_
                clear hK K)
             | (apply Exists.intro
                refine ⟨fun wq hwq => ?_, hK _ ?_⟩
                · have hcq := hwq.cellS
                  go_simp
                  first
                  | exact ⟨Ext.refl _, rfl⟩
                  | exact ⟨Ext.refl _, count_impl _ _ _ _ _ (hR.ext (by repeat (first | exact Ext.refl _ | assumption | refine Ext.alloc ?_ _ | refine Ext.drew ?_ | refine Ext.trans ?_ (by assumption))))⟩
                clear hK K))
  refine wpO_stepS rfl (by kernel_rfl) (fun K hK wq hwq => ?_)
  go_simp
  refine ⟨(by repeat (first | exact Ext.refl _ | assumption | refine Ext.alloc ?_ _ | refine Ext.drew ?_ | refine Ext.trans ?_ (by assumption))), hK _ _ ?_⟩
  clear hK K
  refine wpO_stepS rfl (by kernel_rfl) (fun K hK wq hwq => ?_)
  go_simp
  refine (rep_impl _ _ _ _ _ n n1 n2 (Ext.keep hwq (new0 _ _ _ _))).mono ?_
  rintro e w3 ⟨g, rfl, hg, hB, hw3⟩
  refine ⟨hw3, hK _ _ ?_⟩
  clear hK K
  repeat' (refine wpO_stepQ rfl (fun K hK => ?_)
           go_simp
           try (rw [if_neg (by intro h; simp [undef] at h)])
           try split
           all_goals
             first
             | (refine hK _ ?_
                clear hK K)
             | (apply Exists.intro
                refine ⟨fun wq hwq => ?_, hK _ ?_⟩
                · have hcq := hwq.cellS
                  go_simp
                  first
                  | exact ⟨Ext.refl _, rfl⟩
                clear hK K))
  refine wpO_nil (fun wz hwz => ?_)
  have hw : Ext w w1 := (by repeat (first | exact Ext.refl _ | assumption | refine Ext.alloc ?_ _ | refine Ext.drew ?_ | refine Ext.trans ?_ (by assumption)))
  have hwb : Ext w1 wz := (by repeat (first | exact Ext.refl _ | assumption | refine Ext.alloc ?_ _ | refine Ext.drew ?_ | refine Ext.trans ?_ (by assumption)))
  have hgw : w1.heap.size ≤ g := Nat.le_trans (Ext.size (show Ext w1 wq from (by repeat (first | exact Ext.refl _ | assumption | refine Ext.alloc ?_ _ | refine Ext.drew ?_ | refine Ext.trans ?_ (by assumption))))) hg
  have hB := (hB.ext hwz).congr (f' := fun o => .int .i64 (tabM vs n 0 0 o)) (fun o ho => by rw [tabM_zero])
  have hR0 := hR.ext hw
  clear hwz hw3 hwq hg
  obtain ⟨wb, hwbe⟩ : ∃ wb : World, wb = w1 := ⟨_, rfl⟩
  subst hwbe
  go_wp2
  go_loopw [4, 5, 17, 21, 22] (fun _ _ i _ _ wr => ∃ k : Nat, k ≤ n ∧ i = .int .i64 k ∧ BlkF wr g n (fun o => .int .i64 (tabM vs n k 0 o)) ∧ Ext wb wr) (fun _ _ i _ _ _ => n - (intOf i).toNat)
  case atStart => exact ⟨0, Nat.zero_le _, rfl, hB, hwb⟩
  case round =>
    clear hB hwb
    obtain ⟨i, hi, rfl, hB, hwr⟩ := hrel
    have r0 := hwr.keep q0
    by_cases hit : i < n
    · go_wp2
      go_loopw [5, 22] (fun _ m wr => ∃ k : Nat, k ≤ n ∧ m = .int .i64 k ∧ BlkF wr g n (fun o => .int .i64 (tabM vs n i k o)) ∧ Ext wb wr) (fun _ m _ => n - (intOf m).toNat)
      case atStart => exact ⟨0, Nat.zero_le _, rfl, hB, hwr⟩
      case round =>
        clear hB hwr r0
        obtain ⟨m, hm, rfl, hB, hwr⟩ := hrel
        have r0 := hwr.keep q0
        have r1 := hwr.keep q1
        by_cases hlt : m < n
        · by_cases e : i = m
          · have e' : (i : Int) = (m : Int) := by omega
            have HB := hide hB
            clear hB
            go_wp2
            refine ⟨⟨m + 1, by omega, by go_num, HB.out.congr (fun o _ => ?_), (by repeat (first | exact Ext.refl _ | assumption | refine Ext.alloc ?_ _ | refine Ext.drew ?_ | refine Ext.trans ?_ (by assumption)))⟩, by simp [intOf]; omega⟩
            by_cases e2 : o = i
            · subst e2; rw [tabM_at, tabM_at, minTo, if_pos e]
            · rw [tabM_far vs n i m (m + 1) e2]
          · have e' : ¬ (i : Int) = (m : Int) := by omega
            have d0 := hB.cell i hit
            rw [tabM_at] at d0
            have z0 := hB.fr i
            have HB := hide hB
            clear hB
            go_wp2
            refine wp_region_X (by kernel_rfl) (by kernel_rfl) ?_
            repeat' (refine wpX_stepQ (fun K hK => ?_)
                     go_simp
                     try (rw [if_neg (by intro h; simp [undef] at h)])
                     try split
                     all_goals
                       first
                       | (refine hK _ ?_
                          clear hK K)
                       | (apply Exists.intro
                          refine ⟨fun wq hwq => ?_, hK _ ?_⟩
                          · have hcq := hwq.cellS
                            go_simp
                            first
                            | exact ⟨Ext.refl _, rfl⟩
                            | exact ⟨Ext.refl _, pairI_impl _ _ _ _ _ _ _ (hR0.ext (by repeat (first | exact Ext.refl _ | assumption | refine Ext.alloc ?_ _ | refine Ext.drew ?_ | refine Ext.trans ?_ (by assumption)))) HS.out⟩
                          clear hK K))
            all_goals
              refine wpX_stepL rfl (by kernel_rfl) (by kernel_rfl) (by kernel_rfl) (fun K hK wz hwz => ?_)
              have hcz := hwz.cellS
              have hfz := hwz.frozenS
              go_simp
              refine hK _ _ ?_
              clear hK K
              go_wp2
              refine ⟨⟨m + 1, by omega, by go_num, ((HB.out.ext hwz).set i hit _).congr (fun o _ => ?_), Ext.setCell (Ext.trans hwr hwz) (by omega) _⟩, by simp [intOf]; omega⟩
              by_cases e2 : o = i
              · subst e2; rw [if_pos rfl, tabM_at, minTo, if_neg e, ← min_if]; first | rw [if_pos (by assumption)] | rw [if_neg (by omega)]
              · rw [if_neg e2, tabM_far vs n i m (m + 1) e2]
        · have hmn : m = n := by omega
          go_wp2
          exact ⟨⟨i + 1, by omega, by go_num, hB.congr (fun o _ => by rw [hmn, tabM_done]), hwr⟩, by simp [intOf]; omega⟩
    · have hin : i = n := by omega
      go_wp2
      go_ret
      have he : maxiO n vs = rowL n (fun i => minTo vs (allV vs) i n) := by simp [maxiO, h0]
      rw [he]
      refine ⟨_, rfl, hB.wrI (rowL_len _ _) (fun j x hx => ?_) (Nat.le_trans hw.size hgw) (Nat.le_refl _), hw.trans hwr⟩
      obtain ⟨hj, rfl⟩ := rowL_val hx
      simp only [tabM, hin, if_pos hj]

def countO (sz : Int) (vs : List Vt) : Int := if profOk sz vs then allV vs else -1
set_option maxRecDepth 100000 in
theorem count_impl' (w : World) (sz : Int) (a : Option Addr) (c : Nat) (vs : List Vt) (hR : RdV w a vs) :
    Calls Tryz.prog 76 #[.agg #[.int .i64 sz, .slice a vs.length c]] w fun e w' => e = .returned (.int .i64 (countO sz vs)) ∧ Ext w w' := count_impl w sz a c vs hR

def fstV (vs : List Vt) (a : Nat) : Int := plcV vs a 0
set_option maxRecDepth 100000 in
theorem fstV_bd {n : Int} {vs : List Vt} (hS : SmallV n vs) (a : Nat) : 0 ≤ fstV vs a ∧ fstV vs a ≤ 24000 := sumV_bd' hS

def majO (sz : Int) (vs : List Vt) : Int := if profOk sz vs then findI (fun x => decide (allV vs < 2 * x)) (rowL sz.toNat (fstV vs)) else -1

def pluW (j : Nat) : Int := if j = 0 then 1 else 0
set_option maxRecDepth 100000 in
theorem pluG : GoodW pluW := pluF
set_option maxRecDepth 100000 in
set_option maxHeartbeats 1000000 in
theorem pluOne (w : World) (j : Nat) (hj : j ≤ 5) : Calls Tryz.prog 69 #[.int .i64 j] w fun e w' => e = .returned (.int .i64 (pluW j)) ∧ Ext w w' := by
  by_cases h0 : j = 0
  · subst h0
    go_enter Tryz.func69, Tryz.ntmps69
    go_wp2
    go_ret
    exact ⟨rfl, Ext.refl _⟩
  · go_enter Tryz.func69, Tryz.ntmps69
    go_wp2
    go_ret
    exact ⟨ret_int (by unfold pluW; rw [if_neg h0] <;> first | omega | (split <;> omega)), Ext.refl _⟩

set_option maxRecDepth 100000 in
set_option maxHeartbeats 1000000 in
theorem weightsOf_no (w : World) (m : Int) (K : Value) (h : inR m 1 5 = false) :
    Calls Tryz.prog 68 #[.int .i64 m, K] w fun e w' => e = .returned (.slice none 0 0) ∧ Ext w w' := by
  go_enter Tryz.func68, Tryz.ntmps68
  go_wp2_with (go_at_call 26; refine (in_impl _ _ _ _).mono ?_; rintro e w1 ⟨rfl, hw1⟩)
  go_ret
  exact ⟨rfl, (by repeat (first | exact Ext.refl _ | assumption | refine Ext.alloc ?_ _ | refine Ext.drew ?_ | refine Ext.trans ?_ (by assumption)))⟩

set_option maxRecDepth 100000 in
set_option maxHeartbeats 1000000 in
theorem plu_impl (w : World) (m : Int) :
    Calls Tryz.prog 45 #[.int .i64 m] w fun e w' => ∃ v, e = .returned v ∧ (∀ n : Nat, m = n → inR m 1 5 = true → OwnI w' w.heap.size v (rowL n pluW)) ∧ Ext w w' := by
  cases h : inR m 1 5
  · go_enter Tryz.func45, Tryz.ntmps45
    go_wp2_with fail
    refine (weightsOf_no _ _ _ h).mono ?_
    rintro e w1 ⟨rfl, hw1⟩
    go_wp2
    go_ret
    exact ⟨_, rfl, (fun n _ h => by cases h), (by repeat (first | exact Ext.refl _ | assumption | refine Ext.alloc ?_ _ | refine Ext.drew ?_ | refine Ext.trans ?_ (by assumption)))⟩
  · obtain ⟨h1, h2⟩ := inR_iff.1 h
    obtain ⟨n, rfl⟩ : ∃ n : Nat, m = n := ⟨m.toNat, by omega⟩
    go_enter Tryz.func45, Tryz.ntmps45
    go_wp2_with fail
    refine (weightsOf_impl 69 #[] pluW _ n (by omega) (by omega) Tryz.call69 (fun j w' hj _ => pluOne w' j (by omega))).mono ?_
    rintro e w1 ⟨v, rfl, hv, hw1⟩
    go_wp2
    go_ret
    refine ⟨_, rfl, fun k hk _ => ?_, (by repeat (first | exact Ext.refl _ | assumption | refine Ext.alloc ?_ _ | refine Ext.drew ?_ | refine Ext.trans ?_ (by assumption)))⟩
    have : n = k := by omega
    subst this
    exact hv

set_option maxRecDepth 100000 in
set_option maxHeartbeats 1000000 in
theorem sco_no (w : World) (sz : Int) (a : Option Addr) (c : Nat) (vs : List Vt) (u : Value) (hR : RdV w a vs) (h0 : profOk sz vs = false) :
    Calls Tryz.prog 67 #[.agg #[.int .i64 sz, .slice a vs.length c], u] w fun e w' => e = .returned (.slice none 0 0) ∧ Ext w w' := by
  have q0 := new0 w (.int .i64 sz) [.slice a vs.length c] 26
  have q1 := new1 w (.int .i64 sz) (.slice a vs.length c) [] 26
  go_enter Tryz.func67, Tryz.ntmps67
  go_wp2_with (go_at_call 25; refine (prof_impl _ _ _ _ _ (hR.ext (by repeat (first | exact Ext.refl _ | assumption | refine Ext.alloc ?_ _ | refine Ext.drew ?_ | refine Ext.trans ?_ (by assumption))))).mono ?_; rintro e w1 ⟨rfl, hw1⟩; have q0 := Ext.keep (w' := w1) (by repeat (first | exact Ext.refl _ | assumption | refine Ext.alloc ?_ _ | refine Ext.drew ?_ | refine Ext.trans ?_ (by assumption))) q0; have q1 := Ext.keep (w' := w1) (by repeat (first | exact Ext.refl _ | assumption | refine Ext.alloc ?_ _ | refine Ext.drew ?_ | refine Ext.trans ?_ (by assumption))) q1)
  go_ret
  exact ⟨rfl, (by repeat (first | exact Ext.refl _ | assumption | refine Ext.alloc ?_ _ | refine Ext.drew ?_ | refine Ext.trans ?_ (by assumption)))⟩

def borW (n : Nat) (j : Nat) : Int := ((n - 1 - j : Nat) : Int)
def vetW (n : Nat) (j : Nat) : Int := if j + 1 < n then 1 else 0
set_option maxRecDepth 100000 in
theorem borG {n : Nat} (hn : n ≤ 5) : GoodW (borW n) := ⟨fun j => by unfold borW; omega, fun j => by unfold borW; omega⟩
set_option maxRecDepth 100000 in
theorem vetG (n : Nat) : GoodW (vetW n) := ⟨fun j => by unfold vetW; split <;> omega, fun j => by unfold vetW; split <;> split <;> omega⟩

set_option maxRecDepth 100000 in
theorem set0_at {n j : Nat} (hj : j < n) : ((madeCells #[.int .i64 0] n).setIfInBounds 0 (.int .i64 1)).getD j undef = .int .i64 (pluW j) := by
  have h := made_int n j hj
  have h' : (madeCells #[Value.int .i64 0] n).getD j undef = .int .i64 0 := h
  rw [Array.getD_eq_getD_getElem?] at h' ⊢
  rw [Array.getElem?_setIfInBounds]
  by_cases h0 : j = 0
  · subst h0
    rw [if_pos rfl, size_madeCells, if_pos hj]; rfl
  · rw [if_neg (by omega), h']
    simp [pluW, h0]

def copeV (n : Nat) (vs : List Vt) (i : Nat) : Int := (cntN n (bt vs i) : Nat) - (cntN n (fun j => bt vs j i) : Nat)
def copeO (sz : Int) (vs : List Vt) : List Int := if profOk sz vs then rowL sz.toNat (copeV sz.toNat vs) else []
set_option maxRecDepth 100000 in
theorem copeO_len (sz : Int) (vs : List Vt) : (copeO sz vs).length ≤ 5 := by
  unfold copeO
  cases h0 : profOk sz vs
  · simp
  · obtain ⟨n, rfl, n1, n2⟩ := prof_nat h0
    simp [rowL_len]; omega

def sgnI (x y : Int) : Int := if x < y then -1 else if y < x then 1 else 0
set_option maxRecDepth 100000 in
set_option maxHeartbeats 1000000 in
theorem isnan_impl (w : World) (x : Int) : Calls Tryz.prog 106 #[.int .i64 x] w fun e w' => e = .returned (.bool false) ∧ Ext w w' := by
  go_enter Tryz.func106, Tryz.ntmps106
  go_wp2
  go_ret
  exact ⟨ret_bool (by simp), Ext.refl _⟩
set_option maxRecDepth 100000 in
set_option maxHeartbeats 1000000 in
theorem cmp_impl (w : World) (x y : Int) : Calls Tryz.prog 73 #[.int .i64 x, .int .i64 y] w fun e w' => e = .returned (.int .i64 (sgnI x y)) ∧ Ext w w' := by
  by_cases h1 : x < y
  · go_enter Tryz.func73, Tryz.ntmps73
    go_wp2_with (go_at_call 106; refine (isnan_impl _ _).mono ?_; rintro e w1 ⟨rfl, hw1⟩)
    go_ret
    exact ⟨ret_int (by simp [sgnI, h1]), (by repeat (first | exact Ext.refl _ | assumption | refine Ext.alloc ?_ _ | refine Ext.drew ?_ | refine Ext.trans ?_ (by assumption)))⟩
  · by_cases h2 : y < x
    · go_enter Tryz.func73, Tryz.ntmps73
      go_wp2_with (go_at_call 106; refine (isnan_impl _ _).mono ?_; rintro e w1 ⟨rfl, hw1⟩)
      go_ret
      exact ⟨ret_int (by simp [sgnI, h1, h2]), (by repeat (first | exact Ext.refl _ | assumption | refine Ext.alloc ?_ _ | refine Ext.drew ?_ | refine Ext.trans ?_ (by assumption)))⟩
    · go_enter Tryz.func73, Tryz.ntmps73
      go_wp2_with (go_at_call 106; refine (isnan_impl _ _).mono ?_; rintro e w1 ⟨rfl, hw1⟩)
      go_ret
      exact ⟨ret_int (by unfold sgnI; rw [if_neg (by omega), if_neg (by omega)]), (by repeat (first | exact Ext.refl _ | assumption | refine Ext.alloc ?_ _ | refine Ext.drew ?_ | refine Ext.trans ?_ (by assumption)))⟩

set_option maxRecDepth 100000 in
theorem sgn_margin (vs : List Vt) (i j : Nat) : sgnI (marginV vs i j) 0 = (if bt vs i j then 1 else 0) - (if bt vs j i then 1 else 0) := by
  unfold sgnI bt beatsV marginV
  by_cases h1 : pairV vs i j < pairV vs j i
  · have h2 : ¬ pairV vs j i < pairV vs i j := by omega
    rw [if_pos (by omega)]; simp [h1, h2]
  · by_cases h2 : pairV vs j i < pairV vs i j
    · rw [if_neg (by omega), if_pos (by omega)]; simp [h1, h2]
    · rw [if_neg (by omega), if_neg (by omega)]; simp [h1, h2]
set_option maxRecDepth 100000 in
theorem copeV_succ (m : Nat) (vs : List Vt) (i : Nat) : copeV (m + 1) vs i = copeV m vs i + sgnI (marginV vs i m) 0 := by
  unfold copeV
  rw [sgn_margin, cntN_succ, cntN_succ]
  cases bt vs i m <;> cases bt vs m i <;> simp <;> omega
set_option maxRecDepth 100000 in
theorem copeV_bd (m : Nat) (vs : List Vt) (i : Nat) : -(m : Int) ≤ copeV m vs i ∧ copeV m vs i ≤ m := by
  have h1 := cntN_le m (bt vs i)
  have h2 := cntN_le m (fun j => bt vs j i)
  unfold copeV
  omega
def tabC (n : Nat) (vs : List Vt) (i m o : Nat) : Int := if o < i then copeV n vs o else if o = i then copeV m vs i else 0
set_option maxRecDepth 100000 in
theorem tabC_zero (n : Nat) (vs : List Vt) (o : Nat) : tabC n vs 0 0 o = 0 := by
  unfold tabC; rw [if_neg (by omega)]; split <;> simp [copeV, cntN]
set_option maxRecDepth 100000 in
theorem tabC_at (n : Nat) (vs : List Vt) (i m : Nat) : tabC n vs i m i = copeV m vs i := by
  unfold tabC; rw [if_neg (by omega), if_pos rfl]
set_option maxRecDepth 100000 in
theorem tabC_far (n : Nat) (vs : List Vt) (i m m' : Nat) {o : Nat} (h : o ≠ i) : tabC n vs i m o = tabC n vs i m' o := by
  unfold tabC; rw [if_neg h, if_neg h]
set_option maxRecDepth 100000 in
theorem tabC_done (n : Nat) (vs : List Vt) (i o : Nat) : tabC n vs i n o = tabC n vs (i + 1) 0 o := by
  unfold tabC
  by_cases h1 : o < i
  · rw [if_pos h1, if_pos (by omega)]
  · by_cases h2 : o = i
    · subst h2; rw [if_neg h1, if_pos rfl, if_pos (by omega)]
    · rw [if_neg h1, if_neg h2, if_neg (by omega)]; split <;> simp [copeV, cntN]

set_option maxRecDepth 100000 in
set_option maxHeartbeats 4000000 in
theorem cope_impl (w : World) (sz : Int) (a : Option Addr) (c : Nat) (vs : List Vt) (hR : RdV w a vs) :
    Calls Tryz.prog 49 #[.agg #[.int .i64 sz, .slice a vs.length c]] w fun e w' => ∃ v, e = .returned v ∧ WrI w' w.heap.size v (copeO sz vs) ∧ Ext w w' := by
  have q0 := new0 w (.int .i64 sz) [.slice a vs.length c] 26
  have q1 := new1 w (.int .i64 sz) (.slice a vs.length c) [] 26
  cases h0 : profOk sz vs
  · go_enter Tryz.func49, Tryz.ntmps49
    go_wp2_with (go_at_call 25; refine (prof_impl _ _ _ _ _ (hR.ext (by repeat (first | exact Ext.refl _ | assumption | refine Ext.alloc ?_ _ | refine Ext.drew ?_ | refine Ext.trans ?_ (by assumption))))).mono ?_; rintro e w1 ⟨rfl, hw1⟩; have q0 := Ext.keep (w' := w1) (by repeat (first | exact Ext.refl _ | assumption | refine Ext.alloc ?_ _ | refine Ext.drew ?_ | refine Ext.trans ?_ (by assumption))) q0; have q1 := Ext.keep (w' := w1) (by repeat (first | exact Ext.refl _ | assumption | refine Ext.alloc ?_ _ | refine Ext.drew ?_ | refine Ext.trans ?_ (by assumption))) q1)
    go_ret
    exact ⟨_, rfl, by simp [copeO, h0]; exact WrI.nil _ _ _ _, (by repeat (first | exact Ext.refl _ | assumption | refine Ext.alloc ?_ _ | refine Ext.drew ?_ | refine Ext.trans ?_ (by assumption)))⟩
  obtain ⟨n, rfl, n1, n2⟩ := prof_nat h0
  have HS := hide (prof_small h0)
  obtain ⟨i0, hi, hz0, hz1, hz2⟩ := info_parts info_int
  have hmk := fun W => run_make_rowN (P := Tryz.prog) 28 3 i0 _ Tryz.underlying28 hi hz0 .i64 .i64 n n (Nat.le_refl _) (by rw [hz2]; omega) (by omega) W
  rw [hz1, Nat.mul_one] at hmk
  go_enter Tryz.func49, Tryz.ntmps49
  go_wp2_with (go_at_call 25; refine (prof_impl _ _ _ _ _ (hR.ext (by repeat (first | exact Ext.refl _ | assumption | refine Ext.alloc ?_ _ | refine Ext.drew ?_ | refine Ext.trans ?_ (by assumption))))).mono ?_; rintro e w1 ⟨rfl, hw1⟩; have q0 := Ext.keep (w' := w1) (by repeat (first | exact Ext.refl _ | assumption | refine Ext.alloc ?_ _ | refine Ext.drew ?_ | refine Ext.trans ?_ (by assumption))) q0; have q1 := Ext.keep (w' := w1) (by repeat (first | exact Ext.refl _ | assumption | refine Ext.alloc ?_ _ | refine Ext.drew ?_ | refine Ext.trans ?_ (by assumption))) q1)
  clear hmk
  have hw : Ext w w1 := (by repeat (first | exact Ext.refl _ | assumption | refine Ext.alloc ?_ _ | refine Ext.drew ?_ | refine Ext.trans ?_ (by assumption)))
  have hR0 := hR.ext hw
  have hB := BlkF.new w1 (madeCells #[.int .i64 0] n) 3
  rw [size_madeCells] at hB
  have hB := hB.congr (f' := fun o => .int .i64 (tabC n vs 0 0 o)) (fun o ho => by rw [tabC_zero]; exact made_int n o ho)
  have h20 := Ext.new w1 (.cells (madeCells #[.int .i64 0] n) 3)
  generalize w1.alloc (.cells (madeCells #[.int .i64 0] n) 3) = W0 at hB h20 ⊢
  obtain ⟨wb, hwb⟩ : ∃ wb : World, wb = w1 := ⟨_, rfl⟩
  subst hwb
  go_loopw [4, 5, 14, 18, 19] (fun _ _ i _ _ wr => ∃ k : Nat, k ≤ n ∧ i = .int .i64 k ∧ BlkF wr wb.heap.size n (fun o => .int .i64 (tabC n vs k 0 o)) ∧ Ext wb wr) (fun _ _ i _ _ _ => n - (intOf i).toNat)
  case atStart => exact ⟨0, Nat.zero_le _, rfl, hB, h20⟩
  case round =>
    clear hB h20
    obtain ⟨i, hi, rfl, hB, hwr⟩ := hrel
    have r0 := hwr.keep q0
    by_cases hit : i < n
    · go_wp2
      go_loopw [5, 19] (fun _ m wr => ∃ k : Nat, k ≤ n ∧ m = .int .i64 k ∧ BlkF wr wb.heap.size n (fun o => .int .i64 (tabC n vs i k o)) ∧ Ext wb wr) (fun _ m _ => n - (intOf m).toNat)
      case atStart => exact ⟨0, Nat.zero_le _, rfl, hB, hwr⟩
      case round =>
        clear hB hwr r0
        obtain ⟨m, hm, rfl, hB, hwr⟩ := hrel
        have r0 := hwr.keep q0
        have r1 := hwr.keep q1
        by_cases hlt : m < n
        · have d0 := hB.cell i hit
          rw [tabC_at] at d0
          have z0 := hB.fr i
          have b1 := copeV_bd m vs i
          have b2 := copeV_bd (m + 1) vs i
          have y1 : wrap64 (copeV m vs i + sgnI (marginV vs i m) 0) = copeV (m + 1) vs i := by rw [← copeV_succ, IntWalk.wrap64_in _ (by omega)]
          have y2 : IntKind.i64.wrap (copeV m vs i + sgnI (marginV vs i m) 0) = copeV (m + 1) vs i := by rw [IntWalk.i64_left]; exact y1
          clear b1 b2
          have HB := hide hB
          clear hB
          go_wp2
          refine wp_region_X (by kernel_rfl) (by kernel_rfl) ?_
          repeat' (refine wpX_stepQ (fun K hK => ?_)
                   go_simp
                   try (rw [if_neg (by intro h; simp [undef] at h)])
                   try split
                   all_goals
                     first
                     | (refine hK _ ?_
                        clear hK K)
                     | (apply Exists.intro
                        refine ⟨fun wq hwq => ?_, hK _ ?_⟩
                        · have hcq := hwq.cellS
                          go_simp
                          first
                          | exact ⟨Ext.refl _, rfl⟩
                          | exact ⟨Ext.refl _, margin_impl _ _ _ _ _ _ _ (hR0.ext (by repeat (first | exact Ext.refl _ | assumption | refine Ext.alloc ?_ _ | refine Ext.drew ?_ | refine Ext.trans ?_ (by assumption)))) HS.out⟩
                          | exact ⟨Ext.refl _, cmp_impl _ _ _⟩
                        clear hK K))
          refine wpX_stepL rfl (by kernel_rfl) (by kernel_rfl) (by kernel_rfl) (fun K hK wz hwz => ?_)
          have hcz := hwz.cellS
          have hfz := hwz.frozenS
          go_simp
          refine hK _ _ ?_
          clear hK K
          go_wp2
          refine ⟨⟨m + 1, by omega, by go_num, ((HB.out.ext hwz).set i hit _).congr (fun o _ => ?_), Ext.setCell (Ext.trans hwr hwz) (Nat.le_refl _) _⟩, by simp [intOf]; omega⟩
          by_cases e : o = i
          · subst e; rw [if_pos rfl, tabC_at]
          · rw [if_neg e, tabC_far n vs i m (m + 1) e]
        · have hmn : m = n := by omega
          go_wp2
          exact ⟨⟨i + 1, by omega, by go_num, hB.congr (fun o _ => by rw [hmn, tabC_done]), hwr⟩, by simp [intOf]; omega⟩
    · have hin : i = n := by omega
      go_wp2
      go_ret
      have he : copeO n vs = rowL n (copeV n vs) := by simp [copeO, h0]
      rw [he]
      refine ⟨_, rfl, hB.wrI (rowL_len _ _) (fun j x hx => ?_) hw.size (Nat.le_refl _), hw.trans hwr⟩
      obtain ⟨hj, rfl⟩ := rowL_val hx
      simp only [tabC, hin, if_pos hj]

def keyS (sc : Nat → Int) (x : Int) : Int := sc x.toNat
/-- Candidates by their scores, the greatest first, equal ones in ascending order. -/
def srk (sc : Nat → Int) (n : Nat) : List Int := sortD (keyS sc) (iotaL n)
set_option maxRecDepth 100000 in
theorem iota_succ (n : Nat) : iotaL (n + 1) = iotaL n ++ [(n : Int)] := rowL_succ n _
set_option maxRecDepth 100000 in
theorem srk_succ (sc : Nat → Int) (n : Nat) : srk sc (n + 1) = insD (keyS sc) (srk sc n) n := by unfold srk; rw [iota_succ, sortD_snoc]
set_option maxRecDepth 100000 in
theorem srk_len (sc : Nat → Int) (n : Nat) : (srk sc n).length = n := by unfold srk; rw [sortD_len]; exact rowL_len _ _
set_option maxRecDepth 100000 in
theorem srk_mem {sc : Nat → Int} {n : Nat} {x : Int} (h : x ∈ srk sc n) : ∃ i : Nat, i < n ∧ x = i := by
  unfold srk at h
  rw [sortD_mem] at h
  obtain ⟨j, hj⟩ := List.mem_iff_getElem?.1 h
  obtain ⟨h1, rfl⟩ := rowL_val hj
  exact ⟨j, h1, rfl⟩

end Go.Proofs.YtfmeklgdaabooaaGreatDoor
