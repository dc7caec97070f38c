/- No three of which each is last in some vote. -/
import Derived.Test.YtbfiaflagadkoaaLast
import Derived.Test.YtbfiaflagadkoaaTop
import Derived.Test.YtbfiaflagadkoaaWth
namespace Go.Proofs.Ytbfiaflagadkoaa
open Go.RowKit

def lst (vs : List Vt) (a b c : Int) : Bool := vs.any (fun x => prefB x.1 b a && prefB x.1 c a)
def triC (vs : List Vt) (a b c : Nat) : Bool := !(lst vs a b c && (lst vs b a c && lst vs c a b))
def triB (vs : List Vt) (a b : Nat) : Bool := allN b (triC vs a b)
def triA (vs : List Vt) (a : Nat) : Bool := allN a (triB vs a)
def worO (sz : Int) (vs : List Vt) : Bool := profOk sz vs && allN sz.toNat (triA vs)
set_option maxRecDepth 100000 in
theorem tri_no {n : Nat} {vs : List Vt} {a b c : Nat} (ha : a < n) (hb : b < a) (hc : c < b) (h : triC vs a b c = false) : allN n (triA vs) = false :=
  allN_f ha (allN_f hb (allN_f hc h))

set_option maxRecDepth 100000 in
set_option maxHeartbeats 2000000 in
theorem lst_spec (w : World) (sz : Int) (a : Option Addr) (c : Nat) (vs : List Vt) (x y z : Int) (hR : RdV w a vs) (hS : SmallV sz vs) :
    Calls Try.prog 92 #[.agg #[.int .i64 sz, .slice a vs.length c], .int .i64 x, .int .i64 y, .int .i64 z] w fun e w' => e = .returned (.bool (lst vs x y z)) ∧ Ext w w' := by
  have HS := hide hS
  have hvl := hS.1
  clear hS
  go_enter Try.func92, Try.ntmps92
  go_wp2_with fail
  have h10 := Ext.new w (.cells #[.int .i64 sz, .slice a vs.length c] 30)
  generalize w.alloc (.cells #[.int .i64 sz, .slice a vs.length c] 30) = W0 at h10 ⊢
  have hR0 := hR.ext h10
  go_loopw [10, 14] (fun _ i wr => ∃ k : Nat, k ≤ vs.length ∧ i = .int .i64 k ∧ Hid ((vs.take k).all (fun v => !(prefB v.1 y x && prefB v.1 z x)) = true) ∧ Ext W0 wr) (fun _ i _ => vs.length - (intOf i).toNat)
  case atStart => exact ⟨0, Nat.zero_le _, rfl, rfl, Ext.refl _⟩
  case round =>
    obtain ⟨k, hk, rfl, hall, hwr⟩ := hrel
    by_cases hlt : k < vs.length
    · obtain ⟨v, hx⟩ := at_of_lt hlt
      obtain ⟨b, off, a', c', rfl, c0, c1, hc', hRx⟩ := (hR0.ext hwr).at_ hx
      obtain ⟨x0, _, _⟩ := HS.out.2 v (List.mem_of_getElem? hx)
      have hxl := (rk_len x0).2
      have HX := hide hx
      clear hx x0
      have e0 := new0 wr (.slice a' v.1.length c') [.int .i64 v.2] 95
      cases h1 : prefB v.1 y x
      · go_wp2_with (go_at_call 131; refine (pref_spec _ _ _ _ _ _ (hRx.ext (by repeat (first | exact Ext.refl _ | assumption | refine Ext.alloc ?_ _ | refine Ext.drew ?_ | refine Ext.trans ?_ (by assumption)))) (by omega)).mono ?_; rintro e w1 ⟨rfl, hw1⟩; have e0 := Ext.keep (w' := w1) (by repeat (first | exact Ext.refl _ | assumption | refine Ext.alloc ?_ _ | refine Ext.drew ?_ | refine Ext.trans ?_ (by assumption))) e0)
        exact ⟨⟨k + 1, by omega, by go_num, (all_take HX.out hall.out).trans (by simp [h1]), (by repeat (first | exact Ext.refl _ | assumption | refine Ext.alloc ?_ _ | refine Ext.drew ?_ | refine Ext.trans ?_ (by assumption)))⟩, by simp [intOf]; omega⟩
      cases h2 : prefB v.1 z x
      · go_wp2_with (go_at_call 131; refine (pref_spec _ _ _ _ _ _ (hRx.ext (by repeat (first | exact Ext.refl _ | assumption | refine Ext.alloc ?_ _ | refine Ext.drew ?_ | refine Ext.trans ?_ (by assumption)))) (by omega)).mono ?_; rintro e w1 ⟨rfl, hw1⟩; have e0 := Ext.keep (w' := w1) (by repeat (first | exact Ext.refl _ | assumption | refine Ext.alloc ?_ _ | refine Ext.drew ?_ | refine Ext.trans ?_ (by assumption))) e0)
        exact ⟨⟨k + 1, by omega, by go_num, (all_take HX.out hall.out).trans (by simp [h2]), (by repeat (first | exact Ext.refl _ | assumption | refine Ext.alloc ?_ _ | refine Ext.drew ?_ | refine Ext.trans ?_ (by assumption)))⟩, by simp [intOf]; omega⟩
      · go_wp2_with (go_at_call 131; refine (pref_spec _ _ _ _ _ _ (hRx.ext (by repeat (first | exact Ext.refl _ | assumption | refine Ext.alloc ?_ _ | refine Ext.drew ?_ | refine Ext.trans ?_ (by assumption)))) (by omega)).mono ?_; rintro e w1 ⟨rfl, hw1⟩; have e0 := Ext.keep (w' := w1) (by repeat (first | exact Ext.refl _ | assumption | refine Ext.alloc ?_ _ | refine Ext.drew ?_ | refine Ext.trans ?_ (by assumption))) e0)
        go_ret
        exact ⟨ret_bool (by symm; unfold lst; rw [List.any_eq_true]; exact ⟨v, List.mem_of_getElem? HX.out, by simp [h1, h2]⟩), h10.trans (by repeat (first | exact Ext.refl _ | assumption | refine Ext.alloc ?_ _ | refine Ext.drew ?_ | refine Ext.trans ?_ (by assumption)))⟩
    · go_wp2
      go_ret
      refine ⟨ret_bool ?_, h10.trans hwr⟩
      have h := all_whole (by omega) hall.out
      symm
      unfold lst
      rw [List.any_eq_false]
      intro v hv
      have h5 := List.all_eq_true.1 h v hv
      intro e
      rw [e] at h5
      cases h5

set_option maxRecDepth 100000 in
set_option maxHeartbeats 4000000 in
theorem wor_spec (w : World) (sz : Int) (a : Option Addr) (c : Nat) (vs : List Vt) (hR : RdV w a vs) :
    Calls Try.prog 39 #[.agg #[.int .i64 sz, .slice a vs.length c]] w fun e w' => e = .returned (.bool (worO sz vs)) ∧ Ext w w' := by
  have q0 := new0 w (.int .i64 sz) [.slice a vs.length c] 30
  have q1 := new1 w (.int .i64 sz) (.slice a vs.length c) [] 30
  cases h0 : profOk sz vs
  · go_enter Try.func39, Try.ntmps39
    go_wp2_with (go_at_call 66; refine (prof_spec _ _ _ _ _ (hR.ext (by repeat (first | exact Ext.refl _ | assumption | refine Ext.alloc ?_ _ | refine Ext.drew ?_ | refine Ext.trans ?_ (by assumption))))).mono ?_; rintro e w1 ⟨rfl, hw1⟩; have q0 := Ext.keep (w' := w1) (by repeat (first | exact Ext.refl _ | assumption | refine Ext.alloc ?_ _ | refine Ext.drew ?_ | refine Ext.trans ?_ (by assumption))) q0; have q1 := Ext.keep (w' := w1) (by repeat (first | exact Ext.refl _ | assumption | refine Ext.alloc ?_ _ | refine Ext.drew ?_ | refine Ext.trans ?_ (by assumption))) q1)
    go_ret
    exact ⟨ret_bool (by simp [worO, h0]), (by repeat (first | exact Ext.refl _ | assumption | refine Ext.alloc ?_ _ | refine Ext.drew ?_ | refine Ext.trans ?_ (by assumption)))⟩
  obtain ⟨n, rfl, n1, n2⟩ := prof_nat h0
  have HS := hide (prof_small h0)
  go_enter Try.func39, Try.ntmps39
  go_wp2_with (go_at_call 66; refine (prof_spec _ _ _ _ _ (hR.ext (by repeat (first | exact Ext.refl _ | assumption | refine Ext.alloc ?_ _ | refine Ext.drew ?_ | refine Ext.trans ?_ (by assumption))))).mono ?_; rintro e w1 ⟨rfl, hw1⟩; have q0 := Ext.keep (w' := w1) (by repeat (first | exact Ext.refl _ | assumption | refine Ext.alloc ?_ _ | refine Ext.drew ?_ | refine Ext.trans ?_ (by assumption))) q0; have q1 := Ext.keep (w' := w1) (by repeat (first | exact Ext.refl _ | assumption | refine Ext.alloc ?_ _ | refine Ext.drew ?_ | refine Ext.trans ?_ (by assumption))) q1)
  obtain ⟨W0, rfl⟩ : ∃ W0 : World, W0 = w1 := ⟨_, rfl⟩
  have hw : Ext w W0 := (by repeat (first | exact Ext.refl _ | assumption | refine Ext.alloc ?_ _ | refine Ext.drew ?_ | refine Ext.trans ?_ (by assumption)))
  have hR0 := hR.ext hw
  go_loopw [3, 4, 5] (fun i _ _ wr => ∃ k : Nat, k ≤ n ∧ i = .int .i64 k ∧ Hid (∀ j, j < k → triA vs j = true) ∧ Ext W0 wr) (fun i _ _ _ => n - (intOf i).toNat)
  case atStart => exact ⟨0, Nat.zero_le _, rfl, fun j hj => absurd hj (by omega), Ext.refl _⟩
  case round =>
    obtain ⟨i, hi, rfl, hall, hwr⟩ := hrel
    have r0 := hwr.keep q0
    by_cases hit : i < n
    · go_wp2
      go_loopw [4, 5] (fun m _ wr => ∃ k : Nat, k ≤ i ∧ m = .int .i64 k ∧ Hid (∀ j, j < k → triB vs i j = true) ∧ Ext W0 wr) (fun m _ _ => i - (intOf m).toNat)
      case atStart => exact ⟨0, Nat.zero_le _, rfl, fun j hj => absurd hj (by omega), hwr⟩
      case round =>
        clear hwr r0
        obtain ⟨m, hm, rfl, hal2, hwr⟩ := hrel
        by_cases hmt : m < i
        · go_wp2
          go_loopw [5] (fun z wr => ∃ k : Nat, k ≤ m ∧ z = .int .i64 k ∧ Hid (∀ j, j < k → triC vs i m j = true) ∧ Ext W0 wr) (fun z _ => m - (intOf z).toNat)
          case atStart => exact ⟨0, Nat.zero_le _, rfl, fun j hj => absurd hj (by omega), hwr⟩
          case round =>
            clear hwr
            obtain ⟨k, hk, rfl, hal3, hwr⟩ := hrel
            have r0 := hwr.keep q0
            have r1 := hwr.keep q1
            have hRr := hR0.ext hwr
            by_cases hkt : k < m
            · cases c1 : lst vs i m k
              · go_wp2_with (go_at_call 92; refine (lst_spec _ _ _ _ _ _ _ _ (hRr.ext (by repeat (first | exact Ext.refl _ | assumption | refine Ext.alloc ?_ _ | refine Ext.drew ?_ | refine Ext.trans ?_ (by assumption)))) HS.out).mono ?_; rintro e w1 ⟨rfl, hw1⟩; have r0 := Ext.keep (w' := w1) (by repeat (first | exact Ext.refl _ | assumption | refine Ext.alloc ?_ _ | refine Ext.drew ?_ | refine Ext.trans ?_ (by assumption))) r0; have r1 := Ext.keep (w' := w1) (by repeat (first | exact Ext.refl _ | assumption | refine Ext.alloc ?_ _ | refine Ext.drew ?_ | refine Ext.trans ?_ (by assumption))) r1)
                exact ⟨⟨k + 1, by omega, by go_num, upto_succ hal3.out (by simp [triC, c1]), (by repeat (first | exact Ext.refl _ | assumption | refine Ext.alloc ?_ _ | refine Ext.drew ?_ | refine Ext.trans ?_ (by assumption)))⟩, by simp [intOf]; omega⟩
              cases c2 : lst vs m i k
              · go_wp2_with (go_at_call 92; refine (lst_spec _ _ _ _ _ _ _ _ (hRr.ext (by repeat (first | exact Ext.refl _ | assumption | refine Ext.alloc ?_ _ | refine Ext.drew ?_ | refine Ext.trans ?_ (by assumption)))) HS.out).mono ?_; rintro e w1 ⟨rfl, hw1⟩; have r0 := Ext.keep (w' := w1) (by repeat (first | exact Ext.refl _ | assumption | refine Ext.alloc ?_ _ | refine Ext.drew ?_ | refine Ext.trans ?_ (by assumption))) r0; have r1 := Ext.keep (w' := w1) (by repeat (first | exact Ext.refl _ | assumption | refine Ext.alloc ?_ _ | refine Ext.drew ?_ | refine Ext.trans ?_ (by assumption))) r1)
                exact ⟨⟨k + 1, by omega, by go_num, upto_succ hal3.out (by simp [triC, c2]), (by repeat (first | exact Ext.refl _ | assumption | refine Ext.alloc ?_ _ | refine Ext.drew ?_ | refine Ext.trans ?_ (by assumption)))⟩, by simp [intOf]; omega⟩
              cases c3 : lst vs k i m
              · go_wp2_with (go_at_call 92; refine (lst_spec _ _ _ _ _ _ _ _ (hRr.ext (by repeat (first | exact Ext.refl _ | assumption | refine Ext.alloc ?_ _ | refine Ext.drew ?_ | refine Ext.trans ?_ (by assumption)))) HS.out).mono ?_; rintro e w1 ⟨rfl, hw1⟩; have r0 := Ext.keep (w' := w1) (by repeat (first | exact Ext.refl _ | assumption | refine Ext.alloc ?_ _ | refine Ext.drew ?_ | refine Ext.trans ?_ (by assumption))) r0; have r1 := Ext.keep (w' := w1) (by repeat (first | exact Ext.refl _ | assumption | refine Ext.alloc ?_ _ | refine Ext.drew ?_ | refine Ext.trans ?_ (by assumption))) r1)
                exact ⟨⟨k + 1, by omega, by go_num, upto_succ hal3.out (by simp [triC, c3]), (by repeat (first | exact Ext.refl _ | assumption | refine Ext.alloc ?_ _ | refine Ext.drew ?_ | refine Ext.trans ?_ (by assumption)))⟩, by simp [intOf]; omega⟩
              · go_wp2_with (go_at_call 92; refine (lst_spec _ _ _ _ _ _ _ _ (hRr.ext (by repeat (first | exact Ext.refl _ | assumption | refine Ext.alloc ?_ _ | refine Ext.drew ?_ | refine Ext.trans ?_ (by assumption)))) HS.out).mono ?_; rintro e w1 ⟨rfl, hw1⟩; have r0 := Ext.keep (w' := w1) (by repeat (first | exact Ext.refl _ | assumption | refine Ext.alloc ?_ _ | refine Ext.drew ?_ | refine Ext.trans ?_ (by assumption))) r0; have r1 := Ext.keep (w' := w1) (by repeat (first | exact Ext.refl _ | assumption | refine Ext.alloc ?_ _ | refine Ext.drew ?_ | refine Ext.trans ?_ (by assumption))) r1)
                go_ret
                refine ⟨ret_bool ?_, hw.trans (by repeat (first | exact Ext.refl _ | assumption | refine Ext.alloc ?_ _ | refine Ext.drew ?_ | refine Ext.trans ?_ (by assumption)))⟩
                have h1 := tri_no (n := n) hit hmt hkt (show triC vs i m k = false by simp [triC, c1, c2, c3])
                simp [worO, h1]
            · have hkm : k = m := by omega
              go_wp2
              exact ⟨⟨m + 1, by omega, by go_num, upto_succ hal2.out (allN_t (fun j hj => hal3.out j (by omega))), hwr⟩, by simp [intOf]; omega⟩
        · have hmi : m = i := by omega
          go_wp2
          exact ⟨⟨i + 1, by omega, by go_num, upto_succ hall.out (allN_t (fun j hj => hal2.out j (by omega))), hwr⟩, by simp [intOf]; omega⟩
    · have hin : i = n := by omega
      go_wp2
      go_ret
      exact ⟨ret_bool (by simp only [worO, h0, Int.toNat_natCast, Bool.true_and]; exact (allN_t (fun j hj => hall.out j (by omega))).symm), hw.trans hwr⟩

set_option maxRecDepth 100000 in
theorem OwnI.formR {w : World} {B : Nat} {u : Value} {xs : List Int} (h : OwnI w B u xs) : ∃ a n c, u = .slice a n c ∧ n = xs.length ∧ RdI w a xs := by
  obtain ⟨a, c, rfl, _, _, hR, _⟩ := h.val
  exact ⟨_, _, _, rfl, rfl, hR⟩
set_option maxRecDepth 100000 in
theorem pref_self (r : List Int) (x : Int) : prefB r x x = false := by simp [prefB]
set_option maxRecDepth 100000 in
theorem pref_tot {n : Nat} {r : List Int} (h : rkOk n r = true) {x y : Nat} (hx : x < n) (hy : y < n) (hne : x ≠ y) : prefB r x y = !prefB r y x := by
  obtain ⟨p, _, h1, h2, _⟩ := place_at h hx
  obtain ⟨q, _, h3, h4, _⟩ := place_at h hy
  have hpq : p ≠ q := fun e => by subst e; rw [h2] at h4; injection h4 with h4; omega
  unfold prefB
  rw [h1, h3]
  by_cases h5 : p < q
  · have h6 : ¬ q < p := by omega
    simp [h5, h6]
  · have h6 : q < p := by omega
    simp [h5, h6]
set_option maxRecDepth 100000 in
theorem sumV_pos {n : Int} {p : List Int → Bool} : ∀ {vs : List Vt}, SmallV n vs → decide (0 < sumV p vs) = vs.any (fun x => p x.1)
  | [], _ => by simp [sumV]
  | x :: vs, hS => by
    have ih := sumV_pos (p := p) hS.tail
    have h1 := (hS.2 x (by simp)).2.1
    have h2 : 0 ≤ sumV p vs ∧ _ := sumV_bd' hS.tail (p := p)
    rw [sumV_cons, List.any_cons, ← ih]
    cases hp : p x.1
    · simp
    · simp; omega
def lastB' (n : Nat) (vs : List Vt) (s : Int) (m : Int) : Bool := decide (0 < sumV (lsP (memL n s) m) vs)
def worS (n : Nat) (vs : List Vt) (s : Int) : Bool := decide ((memL n s).length = 3) && (memL n s).all (lastB' n vs s)
set_option maxRecDepth 100000 in
theorem mem_three0 : ∀ n : Nat, n < 6 → ∀ s : Nat, s < 32 → (!decide ((memL n (s : Int)).length = 3) || (match memL n (s : Int) with | [c, b, a] => decide (0 ≤ c ∧ c < b ∧ b < a ∧ a < n) | _ => false)) = true := by decide +kernel
set_option maxRecDepth 100000 in
theorem mem_three {n s : Nat} (hn : n ≤ 5) (hs : s < 32) (h : (memL n (s : Int)).length = 3) : ∃ a b c : Nat, c < b ∧ b < a ∧ a < n ∧ memL n (s : Int) = [(c : Int), (b : Int), (a : Int)] := by
  have h0 := mem_three0 n (by omega) s hs
  rw [show decide ((memL n (s : Int)).length = 3) = true by simpa using h] at h0
  simp only [Bool.not_true, Bool.false_or] at h0
  split at h0
  · rename_i c b a he
    have h1 := of_decide_eq_true h0
    refine ⟨a.toNat, b.toNat, c.toNat, by omega, by omega, by omega, ?_⟩
    rw [he, Int.toNat_of_nonneg (by omega), Int.toNat_of_nonneg (by omega), Int.toNat_of_nonneg (by omega)]
  · cases h0
set_option maxRecDepth 100000 in
theorem set_three0 : ∀ n : Nat, n < 6 → ∀ a : Nat, a < 5 → ∀ b : Nat, b < 5 → ∀ c : Nat, c < 5 → (!decide (c < b ∧ b < a ∧ a < n) || (decide (2 ^ a + 2 ^ b + 2 ^ c < 2 ^ n) && (memL n ((2 ^ a + 2 ^ b + 2 ^ c : Nat) : Int) == [(c : Int), (b : Int), (a : Int)]))) = true := by decide +kernel
set_option maxRecDepth 100000 in
theorem ls_three {n : Nat} {vs : List Vt} (hS : SmallV n vs) {a b c : Nat} (hc : c < b) (hb : b < a) (ha : a < n) :
    decide (0 < sumV (lsP [(c : Int), (b : Int), (a : Int)] a) vs) = lst vs a b c ∧ decide (0 < sumV (lsP [(c : Int), (b : Int), (a : Int)] b) vs) = lst vs b a c ∧ decide (0 < sumV (lsP [(c : Int), (b : Int), (a : Int)] c) vs) = lst vs c a b := by
  have any_congr : ∀ {p q : Vt → Bool}, (∀ x ∈ vs, p x = q x) → vs.any p = vs.any q := fun {p q} h => by
    rw [Bool.eq_iff_iff, List.any_eq_true, List.any_eq_true]
    exact ⟨fun ⟨x, hx, h1⟩ => ⟨x, hx, by rw [← h x hx]; exact h1⟩, fun ⟨x, hx, h1⟩ => ⟨x, hx, by rw [h x hx]; exact h1⟩⟩
  refine ⟨?_, ?_, ?_⟩
  all_goals
    rw [sumV_pos hS]
    unfold lst
    refine any_congr fun x hx => ?_
    have hr := (hS.2 x hx).1
    have t1 := pref_tot hr (x := a) (y := b) ha (by omega) (by omega)
    have t2 := pref_tot hr (x := a) (y := c) ha (by omega) (by omega)
    have t3 := pref_tot hr (x := b) (y := c) (by omega) (by omega) (by omega)
    simp only [lsP, List.any_cons, List.any_nil, pref_self, t1, t2, t3]
    cases prefB x.1 b a <;> cases prefB x.1 c a <;> cases prefB x.1 c b <;> rfl
set_option maxRecDepth 100000 in
theorem wor_eq {n : Nat} {vs : List Vt} (hn : n ≤ 5) (hS : SmallV n vs) : allN n (triA vs) = allN (2 ^ n) (fun s => !worS n vs (s : Int)) := by
  have hp := pow_le32 hn
  rw [Bool.eq_iff_iff]
  constructor
  · intro h
    refine allN_t fun s hs => ?_
    cases hw : worS n vs (s : Int)
    · rfl
    · exfalso
      simp only [worS, Bool.and_eq_true, decide_eq_true_eq] at hw
      obtain ⟨a, b, c, h1, h2, h3, he⟩ := mem_three hn (by omega) hw.1
      obtain ⟨l1, l2, l3⟩ := ls_three hS h1 h2 h3
      have h4 := allN_iff.1 (allN_iff.1 (allN_iff.1 h a h3) b h2) c h1
      have h5 := hw.2
      simp only [lastB', he, List.all_cons, List.all_nil, l1, l2, l3, Bool.and_true, Bool.and_eq_true] at h5
      simp only [triC, h5.2.2, h5.2.1, h5.1] at h4
      cases h4
  · intro h
    refine allN_t fun a ha => allN_t fun b hb => allN_t fun c hc => ?_
    cases ht : triC vs a b c
    · exfalso
      have h0 := set_three0 n (by omega) a (by omega) b (by omega) c (by omega)
      rw [show decide (c < b ∧ b < a ∧ a < n) = true by simp; omega] at h0
      simp only [Bool.not_true, Bool.false_or, Bool.and_eq_true, decide_eq_true_eq, beq_iff_eq] at h0
      obtain ⟨h1, he⟩ := h0
      have h2 := allN_iff.1 h _ h1
      obtain ⟨l1, l2, l3⟩ := ls_three hS hc hb ha
      simp only [triC, Bool.not_eq_false', Bool.and_eq_true] at ht
      have h3 : worS n vs ((2 ^ a + 2 ^ b + 2 ^ c : Nat) : Int) = true := by
        simp only [worS, lastB', he, List.all_cons, List.all_nil, l1, l2, l3, ht.1, ht.2.1, ht.2.2]
        rfl
      rw [h3] at h2
      cases h2
    · rfl

set_option maxRecDepth 100000 in
set_option maxHeartbeats 4000000 in
theorem wor_impl (w : World) (sz : Int) (a : Option Addr) (c : Nat) (vs : List Vt) (hR : RdV w a vs) :
    Calls Try.prog 40 #[.agg #[.int .i64 sz, .slice a vs.length c]] w fun e w' => e = .returned (.bool (worO sz vs)) ∧ Ext w w' := by
  have q0 := new0 w (.int .i64 sz) [.slice a vs.length c] 30
  have q1 := new1 w (.int .i64 sz) (.slice a vs.length c) [] 30
  cases h0 : profOk sz vs
  · go_enter Try.func40, Try.ntmps40
    go_wp2_with (go_at_call 70; refine (prof_impl _ _ _ _ _ (hR.ext (by repeat (first | exact Ext.refl _ | assumption | refine Ext.alloc ?_ _ | refine Ext.drew ?_ | refine Ext.trans ?_ (by assumption))))).mono ?_; rintro e w1 ⟨rfl, hw1⟩; have q0 := Ext.keep (w' := w1) (by repeat (first | exact Ext.refl _ | assumption | refine Ext.alloc ?_ _ | refine Ext.drew ?_ | refine Ext.trans ?_ (by assumption))) q0; have q1 := Ext.keep (w' := w1) (by repeat (first | exact Ext.refl _ | assumption | refine Ext.alloc ?_ _ | refine Ext.drew ?_ | refine Ext.trans ?_ (by assumption))) q1)
    go_ret
    exact ⟨ret_bool (by simp [worO, h0]), (by repeat (first | exact Ext.refl _ | assumption | refine Ext.alloc ?_ _ | refine Ext.drew ?_ | refine Ext.trans ?_ (by assumption)))⟩
  obtain ⟨n, rfl, n1, n2⟩ := prof_nat h0
  have HS := hide (prof_small h0)
  have HW := hide (wor_eq n2 HS.out)
  have hp := pow_le32 n2
  have hp1 : 1 ≤ 2 ^ n := Nat.pow_pos (by decide)
  have hpn : ((2 : Int) ^ n) = ((2 ^ n : Nat) : Int) := by simp
  obtain ⟨N, hN⟩ : ∃ N : Nat, N = 2 ^ n := ⟨_, rfl⟩
  have z1 : wrap64 ((2 : Int) ^ n) = (N : Int) := by rw [IntWalk.wrap64_in _ (by omega), hpn]; omega
  have z2 : IntKind.i64.wrap ((2 : Int) ^ n) = (N : Int) := by rw [IntWalk.i64_left]; exact z1
  have hN32 : N ≤ 32 := by omega
  have HN := hide hN
  clear hp hp1 hpn hN
  go_enter Try.func40, Try.ntmps40
  go_wp2_with (go_at_call 70; refine (prof_impl _ _ _ _ _ (hR.ext (by repeat (first | exact Ext.refl _ | assumption | refine Ext.alloc ?_ _ | refine Ext.drew ?_ | refine Ext.trans ?_ (by assumption))))).mono ?_; rintro e w1 ⟨rfl, hw1⟩; have q0 := Ext.keep (w' := w1) (by repeat (first | exact Ext.refl _ | assumption | refine Ext.alloc ?_ _ | refine Ext.drew ?_ | refine Ext.trans ?_ (by assumption))) q0; have q1 := Ext.keep (w' := w1) (by repeat (first | exact Ext.refl _ | assumption | refine Ext.alloc ?_ _ | refine Ext.drew ?_ | refine Ext.trans ?_ (by assumption))) q1)
  have hw : Ext w w1 := (by repeat (first | exact Ext.refl _ | assumption | refine Ext.alloc ?_ _ | refine Ext.drew ?_ | refine Ext.trans ?_ (by assumption)))
  have hR0 := hR.ext hw
  obtain ⟨wb, hwb⟩ : ∃ wb : World, wb = w1 := ⟨_, rfl⟩
  subst hwb
  go_loopw [3, 4, 5, 7, 14, 22, 23, 24] (fun _ _ _ _ i _ _ _ wr => ∃ k : Nat, k ≤ N ∧ i = .int .i64 (k : Int) ∧ Hid (∀ s : Nat, s < k → (!worS n vs (s : Int)) = true) ∧ Ext wb wr) (fun _ _ _ _ i _ _ _ _ => N - (intOf i).toNat)
  case atStart => exact ⟨0, Nat.zero_le _, rfl, fun s hs => absurd hs (by omega), Ext.refl _⟩
  case round =>
    obtain ⟨s, hs, rfl, hall, hwr⟩ := hrel
    by_cases hlt : s < N
    · have hd : decide (s < N) = true := by simpa using hlt
      go_wp2_with fail
      refine (members_impl _ (s : Int) (by omega) (by omega) n (by omega) (by rw [← HN.out]; simp; omega)).mono ?_
      rintro e w2 ⟨v, rfl, hv, hw2⟩
      obtain ⟨a3, L, c3, rfl, hL, hRl⟩ := hv.formR
      have HL := hide hL
      have hLl : L ≤ 5 := by rw [hL]; exact Nat.le_trans (upL_len n (bitAt (s : Int))) n2
      have hwr2 := hwr.trans hw2
      by_cases h3 : L = 3
      · subst h3
        clear hv hL
        go_wp2_with fail
        obtain ⟨wo, hwo⟩ : ∃ wo : World, wo = w2 := ⟨_, rfl⟩
        subst hwo
        go_loopw [5, 7, 24] (fun g _ i wr => ∃ j : Nat, j ≤ 3 ∧ i = .int .i64 (j : Int) ∧ g = .bool (((memL n (s : Int)).take j).all (lastB' n vs (s : Int))) ∧ Ext wo wr) (fun _ _ i _ => 3 - (intOf i).toNat)
        case atStart => exact ⟨0, Nat.zero_le _, rfl, rfl, Ext.refl _⟩
        case round =>
          obtain ⟨j, hj, rfl, rfl, hwr3⟩ := hrel
          by_cases hjt : j < 3
          · obtain ⟨x, hx⟩ := at_of_lt (xs := memL n (s : Int)) (k := j) (by rw [← HL.out]; exact hjt)
            obtain ⟨b2, off2, rfl, d0⟩ := (hRl.ext hwr3).at_ hx
            have r0 := (hwr2.trans hwr3).keep q0
            have r1 := (hwr2.trans hwr3).keep q1
            have hRr := hR0.ext (hwr2.trans hwr3)
            have hRll := hRl.ext hwr3
            have HX := hide (show ((memL n (s : Int)).take (j + 1)).all (lastB' n vs (s : Int)) = (((memL n (s : Int)).take j).all (lastB' n vs (s : Int)) && lastB' n vs (s : Int) x) by rw [take_at hx]; simp)
            have HC : Hid (∀ w', Ext wr w' → Calls Try.prog 93 #[.agg #[.int .i64 n, .slice a vs.length c], .slice (some ⟨b2, off2, none⟩) 3 c3, .int .i64 x] w' fun e w'' => e = .returned (.int .i64 (sumV (lsP (memL n (s : Int)) x) vs)) ∧ Ext w' w'') := fun w' hw' => by
              have h := last_impl w' n a (some ⟨b2, off2, none⟩) c c3 vs (memL n (s : Int)) x (hRr.ext hw') HS.out (hRll.ext hw') (by rw [← HL.out]; omega)
              rw [← HL.out] at h
              exact h
            clear hx
            cases hf : ((memL n (s : Int)).take j).all (lastB' n vs (s : Int))
            · go_wp2
              exact ⟨⟨j + 1, by omega, by go_num, by rw [HX.out, hf]; rfl, (by repeat (first | exact Ext.refl _ | assumption | refine Ext.alloc ?_ _ | refine Ext.drew ?_ | refine Ext.trans ?_ (by assumption)))⟩, by simp [intOf]; omega⟩
            · go_wp2_with (go_at_call 93; refine (HC.out _ (by repeat (first | exact Ext.refl _ | assumption | refine Ext.alloc ?_ _ | refine Ext.drew ?_ | refine Ext.trans ?_ (by assumption)))).mono ?_; rintro e w1 ⟨rfl, hw1⟩)
              exact ⟨⟨j + 1, by omega, by go_num, by rw [HX.out, hf]; simp [lastB'], (by repeat (first | exact Ext.refl _ | assumption | refine Ext.alloc ?_ _ | refine Ext.drew ?_ | refine Ext.trans ?_ (by assumption)))⟩, by simp [intOf]; omega⟩
          · have hj3 : j = 3 := by omega
            have hw3 : worS n vs (s : Int) = ((memL n (s : Int)).take j).all (lastB' n vs (s : Int)) := by
              rw [List.take_of_length_le (by rw [← HL.out]; omega)]
              unfold worS
              rw [show decide ((memL n (s : Int)).length = 3) = true by rw [← HL.out]; rfl]
              simp
            rw [← hw3]
            clear hw3
            cases hq : worS n vs (s : Int)
            · go_wp2
              exact ⟨⟨s + 1, by omega, by go_num, upto_succ hall.out (by rw [hq]; rfl), hwr2.trans hwr3⟩, by simp [intOf]; omega⟩
            · go_wp2
              go_ret
              refine ⟨ret_bool ?_, hw.trans (hwr2.trans hwr3)⟩
              simp only [worO, h0, Int.toNat_natCast, Bool.true_and]
              rw [HW.out]
              exact (allN_f (k := s) (by rw [← HN.out]; exact hlt) (by rw [hq]; rfl)).symm
      · have h3' : ((L : Int) != 3) = true := by simp; omega
        clear hv hL
        go_wp2
        exact ⟨⟨s + 1, by omega, by go_num, upto_succ hall.out (by unfold worS; rw [show decide ((memL n (s : Int)).length = 3) = false by rw [← HL.out]; simp [h3]]; rfl), hwr2⟩, by simp [intOf]; omega⟩
    · have hsN : s = N := by omega
      go_wp2
      go_ret
      refine ⟨ret_bool ?_, hw.trans hwr⟩
      simp only [worO, h0, Int.toNat_natCast, Bool.true_and]
      rw [HW.out]
      exact (allN_t (fun j hj => hall.out j (by rw [hsN, HN.out]; exact hj))).symm

end Go.Proofs.Ytbfiaflagadkoaa
