/- How many rank a candidate among the first k. -/
import Derived.Test.YtacmabdeocmheaaPlc
import Derived.Test.YtacmabdeocmheaaApp
import Derived.Test.YtacmabdeocmheaaCond
namespace Go.Proofs.Ytacmabdeocmheaa
open Go.RowKit

set_option maxRecDepth 100000 in
theorem sumV_nil (p : List Int → Bool) : sumV p [] = 0 := by simp [sumV]
set_option maxRecDepth 100000 in
theorem sumV_cons (p : List Int → Bool) (x : Vt) (vs : List Vt) : sumV p (x :: vs) = (if p x.1 then x.2 else 0) + sumV p vs := by
  unfold sumV
  cases h : p x.1 <;> simp [h]
set_option maxRecDepth 100000 in
theorem sumV_none : ∀ vs : List Vt, sumV (fun _ => false) vs = 0
  | [] => rfl
  | x :: vs => by rw [sumV_cons, sumV_none vs]; simp
set_option maxRecDepth 100000 in
theorem sumV_all : ∀ vs : List Vt, sumV (fun _ => true) vs = (vs.map Prod.snd).sum
  | [] => rfl
  | x :: vs => by rw [sumV_cons, sumV_all vs]; simp
set_option maxRecDepth 100000 in
theorem sumV_congr {p q : List Int → Bool} : ∀ {vs : List Vt}, (∀ x ∈ vs, p x.1 = q x.1) → sumV p vs = sumV q vs
  | [], _ => rfl
  | x :: vs, h => by rw [sumV_cons, sumV_cons, h x (by simp), sumV_congr (fun y hy => h y (by simp [hy]))]
set_option maxRecDepth 100000 in
theorem sumV_add {p q r : List Int → Bool} : ∀ {vs : List Vt}, (∀ x ∈ vs, r x.1 = (p x.1 || q x.1) ∧ (p x.1 && q x.1) = false) → sumV r vs = sumV p vs + sumV q vs
  | [], _ => by simp [sumV]
  | x :: vs, h => by
    obtain ⟨h1, h2⟩ := h x (by simp)
    rw [sumV_cons, sumV_cons, sumV_cons, h1, sumV_add (fun y hy => h y (by simp [hy]))]
    cases hp : p x.1 <;> cases hq : q x.1 <;> simp [hp, hq] at h2 ⊢ <;> omega
set_option maxRecDepth 100000 in
theorem SmallV.tail {sz : Int} {x : Vt} {vs : List Vt} (h : SmallV sz (x :: vs)) : SmallV sz vs := ⟨by have := h.1; simp at this; omega, fun y hy => h.2 y (by simp [hy])⟩

def wthP (a k : Nat) (r : List Int) : Bool := decide (placeI r a < (k : Int))
def wthV (vs : List Vt) (k a : Nat) : Int := sumV (wthP a k) vs
def sumN (f : Nat → Int) : Nat → Int
  | 0 => 0
  | k + 1 => sumN f k + f k
set_option maxRecDepth 100000 in
theorem wth_sum {n a : Nat} {vs : List Vt} (hS : SmallV n vs) (ha : a < n) : ∀ k, sumN (plcV vs a) k = wthV vs k a
  | 0 => by
    unfold sumN wthV
    rw [sumV_congr (q := fun _ => false) (fun x hx => by
      obtain ⟨p, _, hp, _⟩ := place_at (hS.2 x hx).1 ha
      simp [wthP, hp])]
    exact (sumV_none vs).symm
  | k + 1 => by
    unfold sumN
    rw [wth_sum hS ha k]
    unfold wthV plcV
    refine (sumV_add fun x hx => ?_).symm
    obtain ⟨p, _, hp, h1, h2⟩ := place_at (hS.2 x hx).1 ha
    have e : plcP a k x.1 = decide (p = k) := by
      by_cases e : p = k
      · subst e; simp [plcP, h1]
      · simp only [plcP, e, decide_false, beq_eq_false_iff_ne]
        exact fun h3 => e (h2 k h3).symm
    rw [e]
    unfold wthP
    rw [hp]
    by_cases h3 : p = k
    · have h4 : (p : Int) < ((k + 1 : Nat) : Int) := by omega
      have h5 : ¬ (p : Int) < (k : Int) := by omega
      rw [decide_eq_true h4, decide_eq_false h5, decide_eq_true h3]; simp
    · by_cases h4 : (p : Int) < (k : Int)
      · have h5 : (p : Int) < ((k + 1 : Nat) : Int) := by omega
        rw [decide_eq_true h4, decide_eq_true h5, decide_eq_false h3]; simp
      · have h5 : ¬ (p : Int) < ((k + 1 : Nat) : Int) := by omega
        rw [decide_eq_false h4, decide_eq_false h5, decide_eq_false h3]; simp
set_option maxRecDepth 100000 in
theorem sumN_bd {f : Nat → Int} {M : Int} (h : ∀ j, 0 ≤ f j ∧ f j ≤ M) : ∀ k, 0 ≤ sumN f k ∧ sumN f k ≤ M * k
  | 0 => by simp [sumN]
  | k + 1 => by
    have h1 := sumN_bd h k
    have h2 := h k
    unfold sumN
    have : M * ((k + 1 : Nat) : Int) = M * k + M := by rw [Int.natCast_succ, Int.mul_add]; simp
    omega
set_option maxRecDepth 100000 in
theorem wthV_bd {n : Int} {vs : List Vt} (hS : SmallV n vs) (k a : Nat) : 0 ≤ wthV vs k a ∧ wthV vs k a ≤ 24000 := sumV_bd' hS

set_option maxRecDepth 100000 in
/-- A row of a matrix of the call's own. -/
theorem WrSS.at_ {w : World} {B : Nat} {v : Value} {xss : List (List Int)} (h : WrSS w B v xss) {k : Nat} {xs : List Int} (hx : xss[k]? = some xs) :
    ∃ g c a' c', v = .slice (some ⟨g, 0, none⟩) xss.length c ∧ w.cell? ⟨g, k, none⟩ = some (.slice a' xs.length c') ∧ xs.length ≤ c' ∧ RdI w a' xs := by
  obtain ⟨a, c, hv, hc, ho⟩ := h
  obtain ⟨g, us, rfl, hM⟩ := ho (ne_of_at hx)
  have h1 := hM.row k (lt_of_at hx)
  simp only [List.getD, hx, Option.getD_some] at h1
  obtain ⟨a', c', hu, hc', _, hR, _⟩ := h1.val
  exact ⟨g, c, a', c', hv, by rw [hM.outer.cell k (lt_of_at hx), hu], hc', hR⟩

set_option maxRecDepth 100000 in
set_option maxHeartbeats 1000000 in
theorem wthOne (w : World) (g1 g2 i k : Nat) (a : Option Addr) (c : Nat) (xs : List Int) (h1 : w.cell? ⟨g1, 0, none⟩ = some (.int .i64 i)) (h2 : w.cell? ⟨g2, 0, none⟩ = some (.int .i64 k)) (hR : RdI w a xs) (hl : xs.length ≤ 2000000) :
    Calls Try.prog 263 #[.slice a xs.length c, .pointer (some ⟨g1, 0, none⟩), .pointer (some ⟨g2, 0, none⟩)] w fun e w' => e = .returned (.bool (wthP i k xs)) ∧ Ext w w' := by
  go_enter Try.func263, Try.ntmps263
  go_wp2
  refine wp_region_X (by kernel_rfl) (by kernel_rfl) ?_
  repeat' (refine wpX_stepQ (fun K hK => ?_)
           go_simp
           try (rw [if_neg (by intro h; simp [undef] at h)])
           try split
           all_goals
             first
             | (refine hK _ ?_
                clear hK K)
             | (apply Exists.intro
                refine ⟨fun wq hwq => ?_, hK _ ?_⟩
                · have hcq := hwq.cellS
                  go_simp
                  first
                  | exact ⟨Ext.refl _, rfl⟩
                  | exact ⟨Ext.refl _, place_impl _ _ _ _ _ (hR.ext (by repeat (first | exact Ext.refl _ | assumption | refine Ext.alloc ?_ _ | refine Ext.drew ?_ | refine Ext.trans ?_ (by assumption)))) hl⟩
                clear hK K))
  refine wpX_nil (fun wz hwz => ?_)
  go_wp2
  go_ret
  exact ⟨ret_bool (by simp [wthP]), (by repeat (first | exact Ext.refl _ | assumption | refine Ext.alloc ?_ _ | refine Ext.drew ?_ | refine Ext.trans ?_ (by assumption)))⟩

set_option maxRecDepth 100000 in
set_option maxHeartbeats 4000000 in
theorem wth_impl (w : World) (n : Nat) (a : Option Addr) (c : Nat) (vs : List Vt) (k : Nat) (hR : RdV w a vs) (hS : SmallV n vs) (n2 : n ≤ 5) :
    Calls Try.prog 217 #[.agg #[.int .i64 n, .slice a vs.length c], .int .i64 k] w fun e w' => ∃ v, e = .returned v ∧ WrI w' w.heap.size v (rowL n (wthV vs k)) ∧ Ext w w' := by
  have HS := hide hS
  clear hS
  obtain ⟨i0, hi, hz0, hz1, hz2⟩ := info_parts info_int
  have hmk := fun W => run_make_rowN (P := Try.prog) 50 3 i0 _ Try.underlying50 hi hz0 .i64 .i64 n n (Nat.le_refl _) (by rw [hz2]; omega) (by omega) W
  rw [hz1, Nat.mul_one] at hmk
  have q0 := new0 w (.int .i64 n) [.slice a vs.length c] 43
  have q1 := new1 w (.int .i64 n) (.slice a vs.length c) [] 43
  have q0 := Ext.keep (Ext.new _ (.cells #[.int .i64 (k : Int)] 3)) q0
  have q1 := Ext.keep (Ext.new _ (.cells #[.int .i64 (k : Int)] 3)) q1
  have qk := new0 (w.alloc (.cells #[.int .i64 n, .slice a vs.length c] 43)) (.int .i64 (k : Int)) [] 3
  have hs1 : (w.alloc (.cells #[.int .i64 n, .slice a vs.length c] 43)).heap.size = w.heap.size + 1 := by simp
  rw [hs1] at qk
  go_enter Try.func217, Try.ntmps217
  go_wp2_with fail
  clear hmk
  have h20 : Ext w ((w.alloc (.cells #[.int .i64 n, .slice a vs.length c] 43)).alloc (.cells #[.int .i64 (k : Int)] 3)) := (by repeat (first | exact Ext.refl _ | assumption | refine Ext.alloc ?_ _ | refine Ext.drew ?_ | refine Ext.trans ?_ (by assumption)))
  have hs2 : ((w.alloc (.cells #[.int .i64 n, .slice a vs.length c] 43)).alloc (.cells #[.int .i64 (k : Int)] 3)).heap.size = w.heap.size + 2 := by simp
  clear hs1
  generalize hW : (w.alloc (.cells #[.int .i64 n, .slice a vs.length c] 43)).alloc (.cells #[.int .i64 (k : Int)] 3) = wb at q0 q1 qk h20 hs2 ⊢
  clear hW
  have hB := BlkF.new wb (madeCells #[.int .i64 0] n) 3
  rw [size_madeCells] at hB
  have hE := Ext.new wb (.cells (madeCells #[.int .i64 0] n) 3)
  rw [hs2] at hB
  have hsz : w.heap.size + 2 ≤ wb.heap.size := by omega
  have hsz2 : wb.heap.size ≤ w.heap.size + 2 := by omega
  clear hs2
  have hR0 := hR.ext h20
  have hB := hB.congr (f' := fun o => .int .i64 (if o < 0 then wthV vs k o else 0)) (fun o ho => by rw [if_neg (by omega)]; exact made_int n o ho)
  generalize wb.alloc (.cells (madeCells #[.int .i64 0] n) 3) = W1 at hB hE ⊢
  go_loopw [6, 12] (fun _ i wr => ∃ j : Nat, j ≤ n ∧ i = .int .i64 j ∧ BlkF wr (w.heap.size + 2) n (fun o => .int .i64 (if o < j then wthV vs k o else 0)) ∧ Ext wb wr) (fun _ i _ => n - (intOf i).toNat)
  case atStart => exact ⟨0, Nat.zero_le _, rfl, hB, hE⟩
  case round =>
    clear hB hE
    obtain ⟨i, hi, rfl, hB, hwr⟩ := hrel
    have r0 := hwr.keep q0
    have r1 := hwr.keep q1
    have rk := hwr.keep qk
    by_cases hlt : i < n
    · have d0 := hB.cell i hlt
      rw [if_neg (by omega)] at d0
      have z0 := hB.fr i
      have hRr := hR0.ext hwr
      have HV := hide (fun (w' : World) (hw' : Ext (wr.alloc (.cells #[.int .i64 (i : Int)] 3)) w') =>
        votersV 263 #[] #[.pointer (some ⟨wr.heap.size, 0, none⟩), .pointer (some ⟨w.heap.size + 1, 0, none⟩)] (wthP i k) w' n a c vs (hRr.ext ((Ext.new wr _).trans hw')) HS.out Try.call263
          (fun x a' c' w2 hx hw2 hRx _ => wthOne w2 wr.heap.size (w.heap.size + 1) i k a' c' x.1 (hw2.keep (hw'.keep (new0 wr _ _ _))) (hw2.keep (((Ext.new wr _).trans hw').keep rk)) hRx (by have := (rk_len (HS.out.2 x hx).1).2; omega)))
      have HB := hide hB
      clear hB
      go_wp2
      have e0 := new0 wr (.int .i64 (i : Int)) [] 3
      refine wp_region_X (by kernel_rfl) (by kernel_rfl) ?_
      repeat' (refine wpX_stepQ (fun K hK => ?_)
               go_simp
               try (rw [if_neg (by intro h; simp [undef] at h)])
               try split
               all_goals
                 first
                 | (refine hK _ ?_
                    clear hK K)
                 | (apply Exists.intro
                    refine ⟨fun wq hwq => ?_, hK _ ?_⟩
                    · have hcq := hwq.cellS
                      go_simp
                      first
                      | exact ⟨Ext.refl _, rfl⟩
                      | exact ⟨Ext.refl _, HV.out _ (by repeat (first | exact Ext.refl _ | assumption | refine Ext.alloc ?_ _ | refine Ext.drew ?_ | refine Ext.trans ?_ (by assumption)))⟩
                    clear hK K))
      refine wpX_stepL rfl (by kernel_rfl) (by kernel_rfl) (by kernel_rfl) (fun K hK wz hwz => ?_)
      have hcz := hwz.cellS
      have hfz := hwz.frozenS
      go_simp
      refine hK _ _ ?_
      clear hK K
      go_wp2
      refine ⟨⟨i + 1, by omega, by go_num, ((HB.out.ext (show Ext wr wz from (by repeat (first | exact Ext.refl _ | assumption | refine Ext.alloc ?_ _ | refine Ext.drew ?_ | refine Ext.trans ?_ (by assumption))))).set i hlt _).congr (fun o ho => ?_), Ext.setCell (show Ext wb wz from (by repeat (first | exact Ext.refl _ | assumption | refine Ext.alloc ?_ _ | refine Ext.drew ?_ | refine Ext.trans ?_ (by assumption)))) hsz2 _⟩, by simp [intOf]; omega⟩
      by_cases e : o = i
      · subst e; rw [if_pos rfl, if_pos (by omega)]; rfl
      · rw [if_neg e]
        by_cases e2 : o < i
        · rw [if_pos e2, if_pos (by omega)]
        · rw [if_neg e2, if_neg (by omega)]
    · have hin : i = n := by omega
      go_wp2
      go_ret
      refine ⟨_, rfl, hB.wrI (rowL_len _ _) (fun j x hx => ?_) (by omega) (Nat.le_refl _), h20.trans hwr⟩
      obtain ⟨hj, rfl⟩ := rowL_val hx
      rw [hin, if_pos hj]

end Go.Proofs.Ytacmabdeocmheaa
