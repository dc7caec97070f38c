/- Sums over candidates and votes (plain law). Weights of Borda and of veto, last places and winners by scores, of the program. Weights of Borda and of veto, and winners by scores, of the spec; the last one of a list. -/
import Derived.Test.YtilcdnkkabmbfaaGreatCk9
import Derived.Test.YtilcdnkkabmbfaaGreatCk10
import Derived.Test.YtilcdnkkabmbfaaGreatCk8
import Derived.Test.YtilcdnkkabmbfaaGreatCk11
import Derived.Test.YtilcdnkkabmbfaaGreatCk14
import Derived.Test.YtilcdnkkabmbfaaGreatCk16
namespace Go.Proofs.YtilcdnkkabmbfaaGreat
open Go.RowKit

def sgN (f : Nat → Int) : Nat → Int
  | 0 => 0
  | k + 1 => sgN f k + f k
set_option maxRecDepth 100000 in
theorem sgN_congr {f g : Nat → Int} : ∀ {n : Nat}, (∀ i, i < n → f i = g i) → sgN f n = sgN g n
  | 0, _ => rfl
  | n + 1, h => by rw [sgN, sgN, sgN_congr (fun i hi => h i (by omega)), h n (by omega)]
set_option maxRecDepth 100000 in
theorem sgN_add (f g : Nat → Int) : ∀ n, sgN (fun i => f i + g i) n = sgN f n + sgN g n
  | 0 => rfl
  | n + 1 => by rw [sgN, sgN, sgN, sgN_add f g n]; omega
set_option maxRecDepth 100000 in
theorem sgN_zero : ∀ n, sgN (fun _ => 0) n = 0
  | 0 => rfl
  | n + 1 => by rw [sgN, sgN_zero n]; rfl
set_option maxRecDepth 100000 in
theorem sgN_mul (c : Int) (f : Nat → Int) : ∀ n, sgN (fun i => c * f i) n = c * sgN f n
  | 0 => by simp [sgN]
  | n + 1 => by rw [sgN, sgN, sgN_mul c f n, Int.mul_add]
set_option maxRecDepth 100000 in
theorem sgN_const (c : Int) : ∀ n : Nat, sgN (fun _ => c) n = n * c
  | 0 => by simp [sgN]
  | n + 1 => by rw [sgN, sgN_const c n, Int.natCast_add, Int.add_mul]; simp
set_option maxRecDepth 100000 in
theorem sgN_le {f g : Nat → Int} : ∀ {n : Nat}, (∀ i, i < n → f i ≤ g i) → sgN f n ≤ sgN g n
  | 0, _ => Int.le_refl _
  | n + 1, h => by
    have h1 := sgN_le (f := f) (g := g) (n := n) (fun i hi => h i (by omega))
    have h2 := h n (by omega)
    rw [sgN, sgN]; omega
set_option maxRecDepth 100000 in
theorem sgN_swap (f : Nat → Nat → Int) (m : Nat) : ∀ n, sgN (fun i => sgN (f i) m) n = sgN (fun j => sgN (fun i => f i j) n) m
  | 0 => by simp only [sgN]; exact (sgN_zero m).symm
  | n + 1 => by
    rw [sgN, sgN_swap f m n, ← sgN_add]
    exact sgN_congr (fun j _ => rfl)
set_option maxRecDepth 100000 in
theorem perm_sum {a b : List Int} (h : a.Perm b) : a.sum = b.sum := by
  induction h with
  | nil => rfl
  | cons x _ ih => rw [List.sum_cons, List.sum_cons, ih]
  | swap x y l => rw [List.sum_cons, List.sum_cons, List.sum_cons, List.sum_cons]; omega
  | trans _ _ h1 h2 => rw [h1, h2]
set_option maxRecDepth 100000 in
theorem rowL_sum (f : Nat → Int) : ∀ n, (rowL n f).sum = sgN f n
  | 0 => rfl
  | n + 1 => by rw [rowL_succ, List.sum_append, rowL_sum f n, sgN]; simp
set_option maxRecDepth 100000 in
theorem place_sum {n : Nat} {r : List Int} (h : rkOk n r = true) (f : Nat → Int) : sgN (fun a => f (placeI r a).toNat) n = sgN f n := by
  have hp : (upL n (fun _ => true)).Perm r := (rk_perm h).symm
  have h1 := perm_sum (hp.map (fun x => f (placeI r x).toNat))
  have h2 : (upL n (fun _ => true)).map (fun x => f (placeI r x).toNat) = rowL n (fun a => f (placeI r a).toNat) := by
    rw [← iotaL_up]
    simp [iotaL, rowL]
  have h3 : r.map (fun x => f (placeI r x).toNat) = rowL n f := by
    refine List.ext_getElem? (fun j => ?_)
    have hl : r.length = n := by have := (rk_len h).1; omega
    by_cases hj : j < n
    · obtain ⟨x, hx⟩ := at_of_lt (xs := r) (k := j) (by omega)
      have hm := rk_mem h (List.mem_of_getElem? hx)
      obtain ⟨a, rfl⟩ : ∃ a : Nat, x = a := ⟨x.toNat, by omega⟩
      obtain ⟨k, _, hk, _, hu⟩ := place_at h (show a < n by omega)
      have e := hu j hx
      rw [List.getElem?_map, hx, rowL_at hj, Option.map_some, hk, ← e]
      simp
    · rw [List.getElem?_eq_none (by rw [List.length_map]; omega), List.getElem?_eq_none (by rw [rowL_len]; omega)]
  rw [h2, h3, rowL_sum, rowL_sum] at h1
  exact h1

set_option maxRecDepth 100000 in
theorem SmallV.head {sz : Int} {x : Vt} {vs : List Vt} (h : SmallV sz (x :: vs)) : rkOk sz x.1 = true ∧ 1 ≤ x.2 ∧ x.2 ≤ 1000 := h.2 x (by simp)
set_option maxRecDepth 100000 in
theorem allV_cons (x : Vt) (vs : List Vt) : allV (x :: vs) = x.2 + allV vs := by simp [allV, sumV]
set_option maxRecDepth 100000 in
theorem scoV_cons (f : Nat → Int) (x : Vt) (vs : List Vt) (a : Nat) : scoV f (x :: vs) a = x.2 * f (placeI x.1 a).toNat + scoV f vs a := by simp [scoV]
set_option maxRecDepth 100000 in
theorem allV_nonneg {sz : Int} : ∀ {vs : List Vt}, SmallV sz vs → 0 ≤ allV vs
  | [], _ => by simp [allV, sumV]
  | x :: vs, h => by have := allV_nonneg h.tail; have := h.head; rw [allV_cons]; omega
set_option maxRecDepth 100000 in
theorem allV_pos1 {sz : Int} {vs : List Vt} (h : SmallV sz vs) (hne : 1 ≤ vs.length) : 1 ≤ allV vs := by
  cases vs with
  | nil => simp at hne
  | cons x vs => have := allV_nonneg h.tail; have := h.head; rw [allV_cons]; omega
set_option maxRecDepth 100000 in
/-- Scores add up to the weights of all voters. -/
theorem sco_sum {n : Nat} (f : Nat → Int) : ∀ {vs : List Vt}, SmallV n vs → sgN (scoV f vs) n = sgN f n * allV vs
  | [], _ => by
    have : allV [] = 0 := rfl
    rw [this, Int.mul_zero]
    exact (sgN_congr (fun i _ => rfl)).trans (sgN_zero n)
  | x :: vs, h => by
    have ih := sco_sum f h.tail
    have h1 : sgN (scoV f (x :: vs)) n = sgN (fun a => x.2 * f (placeI x.1 a).toNat) n + sgN (scoV f vs) n := by
      rw [← sgN_add]
      exact sgN_congr (fun a _ => scoV_cons f x vs a)
    rw [h1, ih, sgN_mul, place_sum h.head.1, allV_cons, Int.mul_add, Int.mul_comm]
set_option maxRecDepth 100000 in
theorem pair_tot {n : Nat} {a b : Nat} (ha : a < n) (hb : b < n) (hne : a ≠ b) : ∀ {vs : List Vt}, SmallV n vs → pairV vs a b + pairV vs b a = allV vs
  | [], _ => rfl
  | x :: vs, h => by
    have ih := pair_tot ha hb hne h.tail
    have h1 := pref_tot h.head.1 ha hb hne
    unfold pairV at ih ⊢
    rw [sumV_cons, sumV_cons, allV_cons, h1]
    cases prefB x.1 b a <;> simp <;> omega
set_option maxRecDepth 100000 in
theorem pairW_self (vs : List Vt) (a : Int) : pairV vs a a = 0 := by
  induction vs with
  | nil => rfl
  | cons x vs ih =>
    unfold pairV at ih ⊢
    rw [sumV_cons, ih, pref_self]; rfl
set_option maxRecDepth 100000 in
theorem cnt_above (n k : Nat) : sgN (fun j => if k < j then 1 else 0) n = ((n - 1 - k : Nat) : Int) := by
  have key : ∀ m, sgN (fun j => if k < j then 1 else 0) m = ((m - 1 - k : Nat) : Int) := by
    intro m
    induction m with
    | zero => simp [sgN]
    | succ m ih =>
      rw [sgN, ih]
      by_cases h : k < m
      · rw [if_pos h]; omega
      · rw [if_neg h]; omega
  exact key n
set_option maxRecDepth 100000 in
/-- A voter's points by Borda are the candidates behind. -/
theorem bor_vote {n : Nat} {r : List Int} (h : rkOk n r = true) {a : Nat} (ha : a < n) : sgN (fun b => if prefB r a b then 1 else 0) n = borW n (placeI r a).toNat := by
  obtain ⟨k, hk, hp, _, _⟩ := place_at h ha
  have h1 : sgN (fun b => if prefB r a b then (1 : Int) else 0) n = sgN (fun b => (fun j => if k < j then (1 : Int) else 0) (placeI r b).toNat) n := by
    refine sgN_congr (fun b hb => ?_)
    obtain ⟨q, _, hq, _, _⟩ := place_at h hb
    have e : prefB r a b = decide (k < q) := by
      unfold prefB
      rw [hp, hq]
      have e1 : decide ((0 : Int) ≤ (k : Int)) = true := decide_eq_true (by omega)
      have e2 : decide ((0 : Int) ≤ (q : Int)) = true := decide_eq_true (by omega)
      rw [e1, e2, Bool.true_and, Bool.true_and, decide_eq_decide]
      omega
    rw [hq, e]
    simp
  rw [h1, place_sum h (fun j => if k < j then (1 : Int) else 0), cnt_above n k, hp]
  rfl
set_option maxRecDepth 100000 in
theorem bor_pairs {n : Nat} {a : Nat} (ha : a < n) : ∀ {vs : List Vt}, SmallV n vs → scoV (borW n) vs a = sgN (fun b => pairV vs a b) n
  | [], _ => (sgN_zero n).symm
  | x :: vs, h => by
    rw [scoV_cons, bor_pairs ha h.tail, ← bor_vote h.head.1 ha, ← sgN_mul, ← sgN_add]
    refine sgN_congr (fun b _ => ?_)
    unfold pairV
    rw [sumV_cons]
    cases prefB x.1 a b <;> simp
/-- A veto and a last place are the voters. -/
def lstV (n : Nat) (vs : List Vt) (a : Nat) : Int := scoV (fun j => if j + 1 = n then 1 else 0) vs a
set_option maxRecDepth 100000 in
theorem veto_last {n : Nat} {a : Nat} (ha : a < n) : ∀ {vs : List Vt}, SmallV n vs → scoV (vetW n) vs a + lstV n vs a = allV vs
  | [], _ => rfl
  | x :: vs, h => by
    have ih := veto_last ha h.tail
    obtain ⟨k, hk, hp, _, _⟩ := place_at h.head.1 ha
    unfold lstV at ih ⊢
    rw [scoV_cons, scoV_cons, allV_cons, hp]
    unfold vetW
    simp only [Int.toNat_natCast]
    by_cases e : k + 1 = n
    · rw [if_neg (by omega), if_pos e]
      unfold vetW at ih
      omega
    · rw [if_pos (by omega), if_neg e]
      unfold vetW at ih
      omega

set_option maxRecDepth 100000 in
set_option maxHeartbeats 1000000 in
theorem borOne (w : World) (g n j : Nat) (hj : j < n) (n2 : n ≤ 5) (h0 : w.cell? ⟨g, 0, none⟩ = some (.int .i64 n)) : Calls Tryz.prog 84 (#[.int .i64 j] ++ #[.pointer (some ⟨g, 0, none⟩)]) w fun e w' => e = .returned (.int .i64 (borW n j)) ∧ Ext w w' := by
  have hb : borW n j = (n : Int) - 1 - j := by unfold borW; omega
  have HB := hide hb
  clear hb
  show Calls Tryz.prog 84 #[.int .i64 j, .pointer (some ⟨g, 0, none⟩)] w _
  go_enter Tryz.func84, Tryz.ntmps84
  go_wp2
  go_ret
  exact ⟨ret_int (by rw [HB.out]), Ext.refl _⟩

set_option maxRecDepth 100000 in
set_option maxHeartbeats 1000000 in
theorem vetOne (w : World) (g n j : Nat) (hj : j < n) (n2 : n ≤ 5) (h0 : w.cell? ⟨g, 0, none⟩ = some (.int .i64 n)) : Calls Tryz.prog 85 (#[.int .i64 j] ++ #[.pointer (some ⟨g, 0, none⟩)]) w fun e w' => e = .returned (.int .i64 (vetW n j)) ∧ Ext w w' := by
  have hb : vetW n j = min 1 ((n : Int) - 1 - j) := by unfold vetW; split <;> omega
  have HB := hide hb
  clear hb
  show Calls Tryz.prog 85 #[.int .i64 j, .pointer (some ⟨g, 0, none⟩)] w _
  go_enter Tryz.func85, Tryz.ntmps85
  go_wp2
  all_goals go_ret
  all_goals exact ⟨ret_int (by rw [HB.out]; omega), Ext.refl _⟩

set_option maxRecDepth 100000 in
set_option maxHeartbeats 1000000 in
theorem bor_impl (w : World) (n : Nat) (n1 : 1 ≤ n) (n2 : n ≤ 5) :
    Calls Tryz.prog 39 #[.int .i64 n] w fun e w' => ∃ v, e = .returned v ∧ OwnI w' w.heap.size v (rowL n (borW n)) ∧ Ext w w' := by
  have q0 := new0 w (.int .i64 n) [] 3
  have hE := Ext.new w (.cells #[.int .i64 n] 3)
  go_enter Tryz.func39, Tryz.ntmps39
  go_wp2_with fail
  refine (weightsOf_impl 84 #[.pointer (some ⟨w.heap.size, 0, none⟩)] (borW n) _ n n1 n2 Tryz.call84 (fun j w' hj hw' => borOne w' w.heap.size n j hj n2 (hw'.keep q0))).mono ?_
  rintro e w1 ⟨v, rfl, hv, hw1⟩
  go_wp2
  go_ret
  exact ⟨_, rfl, hv.base hE.size, hE.trans hw1⟩

set_option maxRecDepth 100000 in
set_option maxHeartbeats 1000000 in
theorem vet_impl (w : World) (n : Nat) (n1 : 1 ≤ n) (n2 : n ≤ 5) :
    Calls Tryz.prog 40 #[.int .i64 n] w fun e w' => ∃ v, e = .returned v ∧ OwnI w' w.heap.size v (rowL n (vetW n)) ∧ Ext w w' := by
  have q0 := new0 w (.int .i64 n) [] 3
  have hE := Ext.new w (.cells #[.int .i64 n] 3)
  go_enter Tryz.func40, Tryz.ntmps40
  go_wp2_with fail
  refine (weightsOf_impl 85 #[.pointer (some ⟨w.heap.size, 0, none⟩)] (vetW n) _ n n1 n2 Tryz.call85 (fun j w' hj hw' => vetOne w' w.heap.size n j hj n2 (hw'.keep q0))).mono ?_
  rintro e w1 ⟨v, rfl, hv, hw1⟩
  go_wp2
  go_ret
  exact ⟨_, rfl, hv.base hE.size, hE.trans hw1⟩

set_option maxRecDepth 100000 in
set_option maxHeartbeats 1000000 in
theorem swin_impl (w : World) (n : Nat) (a aw : Option Addr) (c cw : Nat) (vs : List Vt) (f : Nat → Int) (n2 : n ≤ 5) (hR : RdV w a vs) (hW : RdI w aw (rowL n f)) (hf : GoodW f) (h0 : profOk n vs = true) :
    Calls Tryz.prog 37 #[.agg #[.int .i64 n, .slice a vs.length c], .slice aw n cw] w fun e w' => ∃ v, e = .returned v ∧ OwnI w' w.heap.size v (bestL (rowL n (scoV f vs))) ∧ Ext w w' := by
  go_enter Tryz.func37, Tryz.ntmps37
  go_wp2_with fail
  refine (sco_impl _ _ a aw c cw vs f n rfl (hR.ext (by repeat (first | exact Ext.refl _ | assumption | refine Ext.alloc ?_ _ | refine Ext.drew ?_ | refine Ext.trans ?_ (by assumption)))) (hW.ext (by repeat (first | exact Ext.refl _ | assumption | refine Ext.alloc ?_ _ | refine Ext.drew ?_ | refine Ext.trans ?_ (by assumption)))) hf h0).mono ?_
  rintro e w1 ⟨v, rfl, hv, hw1⟩
  obtain ⟨av, cv, rfl, _, hRs, hju⟩ := hv.fr
  have hw : Ext w w1 := (Ext.new _ _).trans hw1
  clear hju hv
  have H := hide (gr_impl w1 av cv (rowL n (scoV f vs)) hRs (by rw [rowL_len]; omega))
  go_wp2_with fail
  refine H.out.mono ?_
  rintro e w2 ⟨v, rfl, hv, hw2⟩
  go_wp2
  go_ret
  exact ⟨_, rfl, hv.base hw.size, hw.trans hw2⟩

set_option maxRecDepth 100000 in
set_option maxHeartbeats 1000000 in
theorem bor_spec (w : World) (n : Nat) (n1 : 1 ≤ n) (n2 : n ≤ 5) :
    Calls Tryz.prog 175 #[.int .i64 n] w fun e w' => ∃ v, e = .returned v ∧ OwnI w' w.heap.size v (rowL n (borW n)) ∧ Ext w w' := by
  have hin : inR (n : Int) 1 5 = true := inR_iff.2 (by omega)
  have HB : Hid (∀ k, k < n → borW n k = (n : Int) - 1 - k) := fun k hk => by unfold borW; omega
  go_enter Tryz.func175, Tryz.ntmps175
  go_wp2_with (go_at_call 69; refine (in_spec _ _ _ _).mono ?_; rintro e w1 ⟨rfl, hw1⟩)
  obtain ⟨wb, hwb⟩ : ∃ wb : World, wb = w1 := ⟨_, rfl⟩
  subst hwb
  have hO := OwnI.made0 wb
  have hE := Ext.new wb (.cells #[] 3)
  generalize wb.alloc (.cells #[] 3) = W0 at hO hE ⊢
  go_loopw [3, 4] (fun v x wr => ∃ k : Nat, k ≤ n ∧ x = .int .i64 ((n : Int) - 1 - k) ∧ OwnI wr wb.heap.size v (rowL k (borW n)) ∧ Ext wb wr) (fun _ x _ => (intOf x + 1).toNat)
  case atStart => exact ⟨0, Nat.zero_le _, by simp, hO, hE⟩
  case round =>
    clear hO hE
    obtain ⟨k, hk, rfl, hown, hwr⟩ := hrel
    by_cases hlt : k < n
    · have hb := HB.out k hlt
      have t1 : (0 : Int) ≤ (n : Int) - 1 - k := by omega
      have y1 : wrap64 ((n : Int) - 1 - k - 1) = (n : Int) - 1 - k - 1 := IntWalk.wrap64_in _ (by omega)
      go_wp2_with (at_builtin; refine wpList_appI wb _ rfl _ _ rfl _ (rowL k (borW n)) _ rfl (hown.ext (by repeat (first | exact Ext.refl _ | assumption | refine Ext.alloc ?_ _ | refine Ext.drew ?_ | refine Ext.trans ?_ (by assumption)))) (by repeat (first | exact Ext.refl _ | assumption | refine Ext.alloc ?_ _ | refine Ext.drew ?_ | refine Ext.trans ?_ (by assumption))) rfl (by rw [rowL_len]; omega) ?_; intro v' w3 hown3 hw3)
      refine ⟨⟨k + 1, by omega, congrArg (Value.int .i64) (by omega), ?_, (by repeat (first | exact Ext.refl _ | assumption | refine Ext.alloc ?_ _ | refine Ext.drew ?_ | refine Ext.trans ?_ (by assumption)))⟩, by simp [intOf]; omega⟩
      rw [rowL_succ, hb]
      exact hown3
    · have hkn : k = n := by omega
      subst hkn
      go_wp2
      go_ret
      exact ⟨_, rfl, hown.base hw1.size, hw1.trans hwr⟩

set_option maxRecDepth 100000 in
set_option maxHeartbeats 1000000 in
theorem vet_spec (w : World) (n : Nat) (n1 : 1 ≤ n) (n2 : n ≤ 5) :
    Calls Tryz.prog 176 #[.int .i64 n] w fun e w' => ∃ v, e = .returned v ∧ WrI w' w.heap.size v (rowL n (vetW n)) ∧ Ext w w' := by
  have hin : inR (n : Int) 1 5 = true := inR_iff.2 (by omega)
  obtain ⟨i0, hi, hz0, hz1, hz2⟩ := info_parts info_int
  have hmk := fun W => run_make_rowN (P := Tryz.prog) 36 3 i0 _ Tryz.underlying36 hi hz0 .i64 .i64 n n (Nat.le_refl _) (by rw [hz2]; omega) (by omega) W
  rw [hz1, Nat.mul_one] at hmk
  have y0 : wrap64 ((n : Int) - 1) = (n : Int) - 1 := IntWalk.wrap64_in _ (by omega)
  go_enter Tryz.func176, Tryz.ntmps176
  go_wp2_with (go_at_call 69; refine (in_spec _ _ _ _).mono ?_; rintro e w1 ⟨rfl, hw1⟩)
  clear hmk
  obtain ⟨wb, hwb⟩ : ∃ wb : World, wb = w1 := ⟨_, rfl⟩
  subst hwb
  have hB := BlkF.new wb (madeCells #[.int .i64 0] n) 3
  rw [size_madeCells] at hB
  have hB := hB.congr (f' := fun o => .int .i64 (if o < 0 then 1 else 0)) (fun o ho => made_int n o ho)
  have h20 := Ext.new wb (.cells (madeCells #[.int .i64 0] n) 3)
  generalize wb.alloc (.cells (madeCells #[.int .i64 0] n) 3) = W0 at hB h20 ⊢
  go_loopw [4] (fun i wr => ∃ k : Nat, k ≤ n - 1 ∧ i = .int .i64 k ∧ BlkF wr wb.heap.size n (fun o => .int .i64 (if o < k then 1 else 0)) ∧ Ext wb wr) (fun i _ => n - 1 - (intOf i).toNat)
  case atStart => exact ⟨0, Nat.zero_le _, rfl, hB, h20⟩
  case round =>
    clear hB h20
    obtain ⟨k, hk, rfl, hB, hwr⟩ := hrel
    by_cases hlt : k < n - 1
    · have t1 : (k : Int) < (n : Int) - 1 := by omega
      have hkn : k < n := by omega
      have d4 := hB.cell k (by omega)
      have z4 := hB.fr k
      have hbl := hB.lt
      go_wp2
      have hO : Only wb.heap.size wr (wr.setCell ⟨wb.heap.size, k, none⟩ (.int .i64 1)) := (Only.refl _ wr).setCell _ _
      refine ⟨⟨k + 1, by omega, by go_num, (hB.set k (by omega) (.int .i64 1)).congr (fun o ho => ?_), Only.ext hwr hO (Nat.le_refl _)⟩, by simp [intOf]; omega⟩
      by_cases e : o = k
      · subst e; rw [if_pos rfl, if_pos (by omega)]
      · rw [if_neg e]
        by_cases e2 : o < k
        · rw [if_pos e2, if_pos (by omega)]
        · rw [if_neg e2, if_neg (by omega)]
    · have t1 : ¬ (k : Int) < (n : Int) - 1 := by omega
      go_wp2
      go_ret
      refine ⟨_, rfl, hB.wrI (rowL_len _ _) (fun j x hx => ?_) hw1.size (Nat.le_refl _), hw1.trans hwr⟩
      obtain ⟨hj, rfl⟩ := rowL_val hx
      unfold vetW
      by_cases e : j + 1 < n
      · rw [if_pos e, if_pos (by omega)]
      · rw [if_neg e, if_neg (by omega)]

set_option maxRecDepth 100000 in
set_option maxHeartbeats 1000000 in
theorem swin_spec (w : World) (n : Nat) (a aw : Option Addr) (c cw : Nat) (vs : List Vt) (f : Nat → Int) (n2 : n ≤ 5) (hR : RdV w a vs) (hW : RdI w aw (rowL n f)) (hf : GoodW f) (h0 : profOk n vs = true) :
    Calls Tryz.prog 173 #[.agg #[.int .i64 n, .slice a vs.length c], .slice aw n cw] w fun e w' => ∃ v, e = .returned v ∧ OwnI w' w.heap.size v (bestL (rowL n (scoV f vs))) ∧ Ext w w' := by
  have q0 := new0 w (.int .i64 n) [.slice a vs.length c] 29
  have q1 := new1 w (.int .i64 n) (.slice a vs.length c) [] 29
  have H0 := hide h0
  have HF := hide hf
  clear h0 hf
  go_enter Tryz.func173, Tryz.ntmps173
  go_wp2_with (go_at_call 195; refine (l05Ok_spec _ n a aw c cw vs f n rfl (hR.ext (by repeat (first | exact Ext.refl _ | assumption | refine Ext.alloc ?_ _ | refine Ext.drew ?_ | refine Ext.trans ?_ (by assumption)))) (hW.ext (by repeat (first | exact Ext.refl _ | assumption | refine Ext.alloc ?_ _ | refine Ext.drew ?_ | refine Ext.trans ?_ (by assumption)))) HF.out H0.out).mono ?_; rintro e w1 ⟨rfl, hw1⟩; have q0 := Ext.keep (w' := w1) (by repeat (first | exact Ext.refl _ | assumption | refine Ext.alloc ?_ _ | refine Ext.drew ?_ | refine Ext.trans ?_ (by assumption))) q0; have q1 := Ext.keep (w' := w1) (by repeat (first | exact Ext.refl _ | assumption | refine Ext.alloc ?_ _ | refine Ext.drew ?_ | refine Ext.trans ?_ (by assumption))) q1)
  have hw : Ext w w1 := (by repeat (first | exact Ext.refl _ | assumption | refine Ext.alloc ?_ _ | refine Ext.drew ?_ | refine Ext.trans ?_ (by assumption)))
  obtain ⟨wb, hwb⟩ : ∃ wb : World, wb = w1 := ⟨_, rfl⟩
  subst hwb
  refine (sco_spec _ n a aw c cw vs f n rfl (hR.ext hw) (hW.ext hw) HF.out H0.out).mono ?_
  rintro e w2 ⟨v, rfl, hv, hw2⟩
  obtain ⟨av, cv, rfl, _, hRs, hju⟩ := hv.fr
  clear hju hv
  have H := hide (best_spec5 w2 av cv (rowL n (scoV f vs)) hRs (by rw [rowL_len]; omega))
  go_wp2_with fail
  refine H.out.mono ?_
  rintro e w3 ⟨v, rfl, hv, hw3⟩
  go_wp2
  go_ret
  exact ⟨_, rfl, hv.base (hw.trans hw2).size, hw.trans (hw2.trans hw3)⟩

set_option maxRecDepth 100000 in
theorem lastI_at {xs : List Int} {m : Nat} (h : xs.length = m + 1) {x : Int} (hx : xs[m]? = some x) : lastI xs = x := by
  unfold lastI
  rw [List.getLast?_eq_getElem?, h, Nat.add_sub_cancel, hx]; rfl

set_option maxRecDepth 100000 in
set_option maxHeartbeats 1000000 in
theorem lastOf_spec (w : World) (a : Option Addr) (c : Nat) (xs : List Int) (hR : RdI w a xs) (hl : xs.length ≤ 2000000) :
    Calls Tryz.prog 181 #[.slice a xs.length c] w fun e w' => e = .returned (.int .i64 (lastI xs)) ∧ Ext w w' := by
  cases h : xs.length with
  | zero =>
    have : xs = [] := List.length_eq_zero_iff.1 h
    subst this
    go_enter Tryz.func181, Tryz.ntmps181
    go_wp2
    go_ret
    exact ⟨rfl, Ext.refl _⟩
  | succ m =>
    obtain ⟨x, hx⟩ := at_of_lt (xs := xs) (k := m) (by omega)
    obtain ⟨b, off, rfl, c0⟩ := hR.at_ hx
    have HL := hide (lastI_at h hx)
    rw [h] at hl
    have t0 : (((m + 1 : Nat) : Int) == 0) = false := by rw [beq_eq_false_iff_ne]; omega
    have y0 : wrap64 (((m + 1 : Nat) : Int) - 1) = (m : Int) := by rw [IntWalk.wrap64_in _ (by omega)]; omega
    clear hx h
    go_enter Tryz.func181, Tryz.ntmps181
    go_wp2
    go_ret
    exact ⟨ret_int HL.out.symm, Ext.refl _⟩

set_option maxRecDepth 100000 in
set_option maxHeartbeats 1000000 in
theorem lastOf_impl (w : World) (a : Option Addr) (c : Nat) (xs : List Int) (hR : RdI w a xs) (hl : xs.length ≤ 2000000) :
    Calls Tryz.prog 45 #[.slice a xs.length c] w fun e w' => e = .returned (.int .i64 (lastI xs)) ∧ Ext w w' := by
  cases h : xs.length with
  | zero =>
    have : xs = [] := List.length_eq_zero_iff.1 h
    subst this
    go_enter Tryz.func45, Tryz.ntmps45
    go_wp2
    go_ret
    exact ⟨rfl, Ext.refl _⟩
  | succ m =>
    obtain ⟨x, hx⟩ := at_of_lt (xs := xs) (k := m) (by omega)
    obtain ⟨b, off, rfl, c0⟩ := hR.at_ hx
    have HL := hide (lastI_at h hx)
    rw [h] at hl
    have t0 : (((m + 1 : Nat) : Int) == 0) = false := by rw [beq_eq_false_iff_ne]; omega
    have y0 : wrap64 (((m + 1 : Nat) : Int) - 1) = (m : Int) := by rw [IntWalk.wrap64_in _ (by omega)]; omega
    clear hx h
    go_enter Tryz.func45, Tryz.ntmps45
    go_wp2
    go_ret
    exact ⟨ret_int HL.out.symm, Ext.refl _⟩

end Go.Proofs.YtilcdnkkabmbfaaGreat
