/- No three of which each is last in some vote. Single-peaked profiles: the median voter, triples, transitivity (plain law). -/
import Derived.Test.YtkbbcglghfddjaaCg10
import Derived.Test.YtkbbcglghfddjaaCg22
import Derived.Test.YtkbbcglghfddjaaCg8
import Derived.Test.YtkbbcglghfddjaaCg16
import Derived.Test.YtkbbcglghfddjaaCg21
namespace Go.Proofs.Ytkbbcglghfddjaa
open Go.RowKit

def lst (vs : List Vt) (a b c : Int) : Bool := vs.any (fun x => prefB x.1 b a && prefB x.1 c a)
def triC (vs : List Vt) (a b c : Nat) : Bool := !(lst vs a b c && (lst vs b a c && lst vs c a b))
def triB (vs : List Vt) (a b : Nat) : Bool := allN b (triC vs a b)
def triA (vs : List Vt) (a : Nat) : Bool := allN a (triB vs a)
def worO (sz : Int) (vs : List Vt) : Bool := profOk sz vs && allN sz.toNat (triA vs)
set_option maxRecDepth 100000 in
theorem tri_no {n : Nat} {vs : List Vt} {a b c : Nat} (ha : a < n) (hb : b < a) (hc : c < b) (h : triC vs a b c = false) : allN n (triA vs) = false :=
  allN_f ha (allN_f hb (allN_f hc h))

set_option maxRecDepth 100000 in
theorem OwnI.formR {w : World} {B : Nat} {u : Value} {xs : List Int} (h : OwnI w B u xs) : ∃ a n c, u = .slice a n c ∧ n = xs.length ∧ RdI w a xs := by
  obtain ⟨a, c, rfl, _, _, hR, _⟩ := h.val
  exact ⟨_, _, _, rfl, rfl, hR⟩
set_option maxRecDepth 100000 in
theorem sumV_pos {n : Int} {p : List Int → Bool} : ∀ {vs : List Vt}, SmallV n vs → decide (0 < sumV p vs) = vs.any (fun x => p x.1)
  | [], _ => by simp [sumV]
  | x :: vs, hS => by
    have ih := sumV_pos (p := p) hS.tail
    have h1 := (hS.2 x (by simp)).2.1
    have h2 : 0 ≤ sumV p vs ∧ _ := sumV_bd' hS.tail (p := p)
    rw [sumV_cons, List.any_cons, ← ih]
    cases hp : p x.1
    · simp
    · simp; omega
def lastB' (n : Nat) (vs : List Vt) (s : Int) (m : Int) : Bool := decide (0 < sumV (lsP (memL n s) m) vs)
def worS (n : Nat) (vs : List Vt) (s : Int) : Bool := decide ((memL n s).length = 3) && (memL n s).all (lastB' n vs s)
set_option maxRecDepth 100000 in
theorem mem_three0 : ∀ n : Nat, n < 6 → ∀ s : Nat, s < 32 → (!decide ((memL n (s : Int)).length = 3) || (match memL n (s : Int) with | [c, b, a] => decide (0 ≤ c ∧ c < b ∧ b < a ∧ a < n) | _ => false)) = true := by decide +kernel
set_option maxRecDepth 100000 in
theorem mem_three {n s : Nat} (hn : n ≤ 5) (hs : s < 32) (h : (memL n (s : Int)).length = 3) : ∃ a b c : Nat, c < b ∧ b < a ∧ a < n ∧ memL n (s : Int) = [(c : Int), (b : Int), (a : Int)] := by
  have h0 := mem_three0 n (by omega) s hs
  rw [show decide ((memL n (s : Int)).length = 3) = true by simpa using h] at h0
  simp only [Bool.not_true, Bool.false_or] at h0
  split at h0
  · rename_i c b a he
    have h1 := of_decide_eq_true h0
    refine ⟨a.toNat, b.toNat, c.toNat, by omega, by omega, by omega, ?_⟩
    rw [he, Int.toNat_of_nonneg (by omega), Int.toNat_of_nonneg (by omega), Int.toNat_of_nonneg (by omega)]
  · cases h0
set_option maxRecDepth 100000 in
theorem set_three0 : ∀ n : Nat, n < 6 → ∀ a : Nat, a < 5 → ∀ b : Nat, b < 5 → ∀ c : Nat, c < 5 → (!decide (c < b ∧ b < a ∧ a < n) || (decide (2 ^ a + 2 ^ b + 2 ^ c < 2 ^ n) && (memL n ((2 ^ a + 2 ^ b + 2 ^ c : Nat) : Int) == [(c : Int), (b : Int), (a : Int)]))) = true := by decide +kernel
set_option maxRecDepth 100000 in
theorem ls_three {n : Nat} {vs : List Vt} (hS : SmallV n vs) {a b c : Nat} (hc : c < b) (hb : b < a) (ha : a < n) :
    decide (0 < sumV (lsP [(c : Int), (b : Int), (a : Int)] a) vs) = lst vs a b c ∧ decide (0 < sumV (lsP [(c : Int), (b : Int), (a : Int)] b) vs) = lst vs b a c ∧ decide (0 < sumV (lsP [(c : Int), (b : Int), (a : Int)] c) vs) = lst vs c a b := by
  have any_congr : ∀ {p q : Vt → Bool}, (∀ x ∈ vs, p x = q x) → vs.any p = vs.any q := fun {p q} h => by
    rw [Bool.eq_iff_iff, List.any_eq_true, List.any_eq_true]
    exact ⟨fun ⟨x, hx, h1⟩ => ⟨x, hx, by rw [← h x hx]; exact h1⟩, fun ⟨x, hx, h1⟩ => ⟨x, hx, by rw [h x hx]; exact h1⟩⟩
  refine ⟨?_, ?_, ?_⟩
  all_goals
    rw [sumV_pos hS]
    unfold lst
    refine any_congr fun x hx => ?_
    have hr := (hS.2 x hx).1
    have t1 := pref_tot hr (x := a) (y := b) ha (by omega) (by omega)
    have t2 := pref_tot hr (x := a) (y := c) ha (by omega) (by omega)
    have t3 := pref_tot hr (x := b) (y := c) (by omega) (by omega) (by omega)
    simp only [lsP, List.any_cons, List.any_nil, pref_self, t1, t2, t3]
    cases prefB x.1 b a <;> cases prefB x.1 c a <;> cases prefB x.1 c b <;> rfl
set_option maxRecDepth 100000 in
theorem wor_eq {n : Nat} {vs : List Vt} (hn : n ≤ 5) (hS : SmallV n vs) : allN n (triA vs) = allN (2 ^ n) (fun s => !worS n vs (s : Int)) := by
  have hp := pow_le32 hn
  rw [Bool.eq_iff_iff]
  constructor
  · intro h
    refine allN_t fun s hs => ?_
    cases hw : worS n vs (s : Int)
    · rfl
    · exfalso
      simp only [worS, Bool.and_eq_true, decide_eq_true_eq] at hw
      obtain ⟨a, b, c, h1, h2, h3, he⟩ := mem_three hn (by omega) hw.1
      obtain ⟨l1, l2, l3⟩ := ls_three hS h1 h2 h3
      have h4 := allN_iff.1 (allN_iff.1 (allN_iff.1 h a h3) b h2) c h1
      have h5 := hw.2
      simp only [lastB', he, List.all_cons, List.all_nil, l1, l2, l3, Bool.and_true, Bool.and_eq_true] at h5
      simp only [triC, h5.2.2, h5.2.1, h5.1] at h4
      cases h4
  · intro h
    refine allN_t fun a ha => allN_t fun b hb => allN_t fun c hc => ?_
    cases ht : triC vs a b c
    · exfalso
      have h0 := set_three0 n (by omega) a (by omega) b (by omega) c (by omega)
      rw [show decide (c < b ∧ b < a ∧ a < n) = true by simp; omega] at h0
      simp only [Bool.not_true, Bool.false_or, Bool.and_eq_true, decide_eq_true_eq, beq_iff_eq] at h0
      obtain ⟨h1, he⟩ := h0
      have h2 := allN_iff.1 h _ h1
      obtain ⟨l1, l2, l3⟩ := ls_three hS hc hb ha
      simp only [triC, Bool.not_eq_false', Bool.and_eq_true] at ht
      have h3 : worS n vs ((2 ^ a + 2 ^ b + 2 ^ c : Nat) : Int) = true := by
        simp only [worS, lastB', he, List.all_cons, List.all_nil, l1, l2, l3, ht.1, ht.2.1, ht.2.2]
        rfl
      rw [h3] at h2
      cases h2
    · rfl

set_option maxRecDepth 100000 in
set_option maxHeartbeats 4000000 in
theorem wor_impl (w : World) (sz : Int) (a : Option Addr) (c : Nat) (vs : List Vt) (hR : RdV w a vs) :
    Calls Try.prog 24 #[.agg #[.int .i64 sz, .slice a vs.length c]] w fun e w' => e = .returned (.bool (worO sz vs)) ∧ Ext w w' := by
  have q0 := new0 w (.int .i64 sz) [.slice a vs.length c] 26
  have q1 := new1 w (.int .i64 sz) (.slice a vs.length c) [] 26
  cases h0 : profOk sz vs
  · go_enter Try.func24, Try.ntmps24
    go_wp2_with (go_at_call 17; refine (prof_impl _ _ _ _ _ (hR.ext (by repeat (first | exact Ext.refl _ | assumption | refine Ext.alloc ?_ _ | refine Ext.drew ?_ | refine Ext.trans ?_ (by assumption))))).mono ?_; rintro e w1 ⟨rfl, hw1⟩; have q0 := Ext.keep (w' := w1) (by repeat (first | exact Ext.refl _ | assumption | refine Ext.alloc ?_ _ | refine Ext.drew ?_ | refine Ext.trans ?_ (by assumption))) q0; have q1 := Ext.keep (w' := w1) (by repeat (first | exact Ext.refl _ | assumption | refine Ext.alloc ?_ _ | refine Ext.drew ?_ | refine Ext.trans ?_ (by assumption))) q1)
    go_ret
    exact ⟨ret_bool (by simp [worO, h0]), (by repeat (first | exact Ext.refl _ | assumption | refine Ext.alloc ?_ _ | refine Ext.drew ?_ | refine Ext.trans ?_ (by assumption)))⟩
  obtain ⟨n, rfl, n1, n2⟩ := prof_nat h0
  have HS := hide (prof_small h0)
  have HW := hide (wor_eq n2 HS.out)
  have hp := pow_le32 n2
  have hp1 : 1 ≤ 2 ^ n := Nat.pow_pos (by decide)
  have hpn : ((2 : Int) ^ n) = ((2 ^ n : Nat) : Int) := by simp
  obtain ⟨N, hN⟩ : ∃ N : Nat, N = 2 ^ n := ⟨_, rfl⟩
  have z1 : wrap64 ((2 : Int) ^ n) = (N : Int) := by rw [IntWalk.wrap64_in _ (by omega), hpn]; omega
  have z2 : IntKind.i64.wrap ((2 : Int) ^ n) = (N : Int) := by rw [IntWalk.i64_left]; exact z1
  have hN32 : N ≤ 32 := by omega
  have HN := hide hN
  clear hp hp1 hpn hN
  go_enter Try.func24, Try.ntmps24
  go_wp2_with (go_at_call 17; refine (prof_impl _ _ _ _ _ (hR.ext (by repeat (first | exact Ext.refl _ | assumption | refine Ext.alloc ?_ _ | refine Ext.drew ?_ | refine Ext.trans ?_ (by assumption))))).mono ?_; rintro e w1 ⟨rfl, hw1⟩; have q0 := Ext.keep (w' := w1) (by repeat (first | exact Ext.refl _ | assumption | refine Ext.alloc ?_ _ | refine Ext.drew ?_ | refine Ext.trans ?_ (by assumption))) q0; have q1 := Ext.keep (w' := w1) (by repeat (first | exact Ext.refl _ | assumption | refine Ext.alloc ?_ _ | refine Ext.drew ?_ | refine Ext.trans ?_ (by assumption))) q1)
  have hw : Ext w w1 := (by repeat (first | exact Ext.refl _ | assumption | refine Ext.alloc ?_ _ | refine Ext.drew ?_ | refine Ext.trans ?_ (by assumption)))
  have hR0 := hR.ext hw
  obtain ⟨wb, hwb⟩ : ∃ wb : World, wb = w1 := ⟨_, rfl⟩
  subst hwb
  go_loopw [3, 4, 5, 7, 14, 22, 23, 24] (fun _ _ _ _ i _ _ _ wr => ∃ k : Nat, k ≤ N ∧ i = .int .i64 (k : Int) ∧ Hid (∀ s : Nat, s < k → (!worS n vs (s : Int)) = true) ∧ Ext wb wr) (fun _ _ _ _ i _ _ _ _ => N - (intOf i).toNat)
  case atStart => exact ⟨0, Nat.zero_le _, rfl, fun s hs => absurd hs (by omega), Ext.refl _⟩
  case round =>
    obtain ⟨s, hs, rfl, hall, hwr⟩ := hrel
    by_cases hlt : s < N
    · have hd : decide (s < N) = true := by simpa using hlt
      go_wp2_with fail
      refine (members_impl _ (s : Int) (by omega) (by omega) n (by omega) (by rw [← HN.out]; simp; omega)).mono ?_
      rintro e w2 ⟨v, rfl, hv, hw2⟩
      obtain ⟨a3, L, c3, rfl, hL, hRl⟩ := hv.formR
      have HL := hide hL
      have hLl : L ≤ 5 := by rw [hL]; exact Nat.le_trans (upL_len n (bitAt (s : Int))) n2
      have hwr2 := hwr.trans hw2
      by_cases h3 : L = 3
      · subst h3
        clear hv hL
        go_wp2_with fail
        obtain ⟨wo, hwo⟩ : ∃ wo : World, wo = w2 := ⟨_, rfl⟩
        subst hwo
        go_loopw [5, 7, 24] (fun g _ i wr => ∃ j : Nat, j ≤ 3 ∧ i = .int .i64 (j : Int) ∧ g = .bool (((memL n (s : Int)).take j).all (lastB' n vs (s : Int))) ∧ Ext wo wr) (fun _ _ i _ => 3 - (intOf i).toNat)
        case atStart => exact ⟨0, Nat.zero_le _, rfl, rfl, Ext.refl _⟩
        case round =>
          obtain ⟨j, hj, rfl, rfl, hwr3⟩ := hrel
          by_cases hjt : j < 3
          · obtain ⟨x, hx⟩ := at_of_lt (xs := memL n (s : Int)) (k := j) (by rw [← HL.out]; exact hjt)
            obtain ⟨b2, off2, rfl, d0⟩ := (hRl.ext hwr3).at_ hx
            have r0 := (hwr2.trans hwr3).keep q0
            have r1 := (hwr2.trans hwr3).keep q1
            have hRr := hR0.ext (hwr2.trans hwr3)
            have hRll := hRl.ext hwr3
            have HX := hide (show ((memL n (s : Int)).take (j + 1)).all (lastB' n vs (s : Int)) = (((memL n (s : Int)).take j).all (lastB' n vs (s : Int)) && lastB' n vs (s : Int) x) by rw [take_at hx]; simp)
            have HC : Hid (∀ w', Ext wr w' → Calls Try.prog 57 #[.agg #[.int .i64 n, .slice a vs.length c], .slice (some ⟨b2, off2, none⟩) 3 c3, .int .i64 x] w' fun e w'' => e = .returned (.int .i64 (sumV (lsP (memL n (s : Int)) x) vs)) ∧ Ext w' w'') := fun w' hw' => by
              have h := last_impl w' n a (some ⟨b2, off2, none⟩) c c3 vs (memL n (s : Int)) x (hRr.ext hw') HS.out (hRll.ext hw') (by rw [← HL.out]; omega)
              rw [← HL.out] at h
              exact h
            clear hx
            cases hf : ((memL n (s : Int)).take j).all (lastB' n vs (s : Int))
            · go_wp2
              exact ⟨⟨j + 1, by omega, by go_num, by rw [HX.out, hf]; rfl, (by repeat (first | exact Ext.refl _ | assumption | refine Ext.alloc ?_ _ | refine Ext.drew ?_ | refine Ext.trans ?_ (by assumption)))⟩, by simp [intOf]; omega⟩
            · go_wp2_with (go_at_call 57; refine (HC.out _ (by repeat (first | exact Ext.refl _ | assumption | refine Ext.alloc ?_ _ | refine Ext.drew ?_ | refine Ext.trans ?_ (by assumption)))).mono ?_; rintro e w1 ⟨rfl, hw1⟩)
              exact ⟨⟨j + 1, by omega, by go_num, by rw [HX.out, hf]; simp [lastB'], (by repeat (first | exact Ext.refl _ | assumption | refine Ext.alloc ?_ _ | refine Ext.drew ?_ | refine Ext.trans ?_ (by assumption)))⟩, by simp [intOf]; omega⟩
          · have hj3 : j = 3 := by omega
            have hw3 : worS n vs (s : Int) = ((memL n (s : Int)).take j).all (lastB' n vs (s : Int)) := by
              rw [List.take_of_length_le (by rw [← HL.out]; omega)]
              unfold worS
              rw [show decide ((memL n (s : Int)).length = 3) = true by rw [← HL.out]; rfl]
              simp
            rw [← hw3]
            clear hw3
            cases hq : worS n vs (s : Int)
            · go_wp2
              exact ⟨⟨s + 1, by omega, by go_num, upto_succ hall.out (by rw [hq]; rfl), hwr2.trans hwr3⟩, by simp [intOf]; omega⟩
            · go_wp2
              go_ret
              refine ⟨ret_bool ?_, hw.trans (hwr2.trans hwr3)⟩
              simp only [worO, h0, Int.toNat_natCast, Bool.true_and]
              rw [HW.out]
              exact (allN_f (k := s) (by rw [← HN.out]; exact hlt) (by rw [hq]; rfl)).symm
      · have h3' : ((L : Int) != 3) = true := by simp; omega
        clear hv hL
        go_wp2
        exact ⟨⟨s + 1, by omega, by go_num, upto_succ hall.out (by unfold worS; rw [show decide ((memL n (s : Int)).length = 3) = false by rw [← HL.out]; simp [h3]]; rfl), hwr2⟩, by simp [intOf]; omega⟩
    · have hsN : s = N := by omega
      go_wp2
      go_ret
      refine ⟨ret_bool ?_, hw.trans hwr⟩
      simp only [worO, h0, Int.toNat_natCast, Bool.true_and]
      rw [HW.out]
      exact (allN_t (fun j hj => hall.out j (by rw [hsN, HN.out]; exact hj))).symm

/-- The place of a voter's peak on the axis. -/
def pkF (ax r : List Int) : Int := placeI ax (r.getD 0 0)
def chkR (n : Nat) (ax r : List Int) : Bool :=
  decide (0 ≤ pkF ax r) && (decide (pkF ax r < n) && (pkO ax.reverse r && (List.range n).all (fun i => (decide (pkF ax r = i) == plcP (ax.getD i 0).toNat 0 r) && (List.range i).all (fun h => (!decide (pkF ax r ≤ h) || prefB r (ax.getD h 0) (ax.getD i 0)) && (!decide ((i : Int) ≤ pkF ax r) || prefB r (ax.getD i 0) (ax.getD h 0))))))
def chkA (n : Nat) (ax : List Int) : Bool := pkO ax ax && (((allO n).filter (pkO ax)).length == 2 ^ (n - 1) && ((allO n).filter (pkO ax)).all (chkR n ax))
def chkN (n : Nat) : Bool := (allO n).all (chkA n)
set_option maxRecDepth 100000 in
theorem chk_n1 : chkN 1 = true := by decide +kernel
set_option maxRecDepth 100000 in
theorem chk_n2 : chkN 2 = true := by decide +kernel
set_option maxRecDepth 100000 in
theorem chk_n3 : chkN 3 = true := by decide +kernel
set_option maxRecDepth 100000 in
theorem chk_n4 : chkN 4 = true := by decide +kernel
set_option maxRecDepth 100000 in
theorem chk_n5 : chkN 5 = true := by decide +kernel
set_option maxRecDepth 100000 in
theorem chk_a {n : Nat} (n1 : 1 ≤ n) (n5 : n ≤ 5) {ax : List Int} (ha : rkOk n ax = true) : chkA n ax = true := by
  have hc : chkN n = true := by
    rcases (show n = 1 ∨ n = 2 ∨ n = 3 ∨ n = 4 ∨ n = 5 by omega) with rfl | rfl | rfl | rfl | rfl
    · exact chk_n1
    · exact chk_n2
    · exact chk_n3
    · exact chk_n4
    · exact chk_n5
  exact List.all_eq_true.1 hc ax ((allO_mem n1 n5).2 ha)
set_option maxRecDepth 100000 in
theorem pk_self {n : Nat} {ax : List Int} (ha : rkOk n ax = true) (n1 : 1 ≤ n) (n5 : n ≤ 5) : pkO ax ax = true := by
  have := chk_a n1 n5 ha
  unfold chkA at this
  rw [Bool.and_eq_true] at this
  exact this.1
set_option maxRecDepth 100000 in
theorem pk_count {n : Nat} {ax : List Int} (ha : rkOk n ax = true) (n1 : 1 ≤ n) (n5 : n ≤ 5) : ((allO n).filter (pkO ax)).length = 2 ^ (n - 1) := by
  have := chk_a n1 n5 ha
  unfold chkA at this
  rw [Bool.and_eq_true, Bool.and_eq_true] at this
  exact eq_of_beq this.2.1
/-- What is known of a single-peaked ranking. -/
structure PkR (n : Nat) (ax r : List Int) : Prop where
  lo : 0 ≤ pkF ax r
  hi : pkF ax r < n
  rev : pkO ax.reverse r = true
  fst : ∀ i : Nat, i < n → decide (pkF ax r = i) = plcP (ax.getD i 0).toNat 0 r
  up : ∀ h i : Nat, h < i → i < n → pkF ax r ≤ h → prefB r (ax.getD h 0) (ax.getD i 0) = true
  dn : ∀ h i : Nat, h < i → i < n → (i : Int) ≤ pkF ax r → prefB r (ax.getD i 0) (ax.getD h 0) = true
set_option maxRecDepth 100000 in
theorem pk_r {n : Nat} {ax r : List Int} (ha : rkOk n ax = true) (n1 : 1 ≤ n) (n5 : n ≤ 5) (hr : rkOk n r = true) (hp : pkO ax r = true) : PkR n ax r := by
  have h := chk_a n1 n5 ha
  unfold chkA at h
  rw [Bool.and_eq_true, Bool.and_eq_true] at h
  have h2 := List.all_eq_true.1 h.2.2 r (List.mem_filter.2 ⟨(allO_mem n1 n5).2 hr, hp⟩)
  unfold chkR at h2
  rw [Bool.and_eq_true, Bool.and_eq_true, Bool.and_eq_true] at h2
  obtain ⟨a1, a2, a3, a4⟩ := h2
  have key : ∀ h i : Nat, h < i → i < n → (!decide (pkF ax r ≤ h) || prefB r (ax.getD h 0) (ax.getD i 0)) = true ∧ (!decide ((i : Int) ≤ pkF ax r) || prefB r (ax.getD i 0) (ax.getD h 0)) = true := fun h i hh hi => by
    have b1 := List.all_eq_true.1 a4 i (List.mem_range.2 hi)
    rw [Bool.and_eq_true] at b1
    have b2 := List.all_eq_true.1 b1.2 h (List.mem_range.2 hh)
    rw [Bool.and_eq_true] at b2
    exact b2
  refine ⟨of_decide_eq_true a1, of_decide_eq_true a2, a3, fun i hi => ?_, fun h i hh hi hle => ?_, fun h i hh hi hle => ?_⟩
  · have b1 := List.all_eq_true.1 a4 i (List.mem_range.2 hi)
    rw [Bool.and_eq_true] at b1
    exact eq_of_beq b1.1
  · have := (key h i hh hi).1
    rw [decide_eq_true hle] at this
    simpa using this
  · have := (key h i hh hi).2
    rw [decide_eq_true hle] at this
    simpa using this

set_option maxRecDepth 100000 in
/-- Sums over voters. -/
theorem sumV_or {p q r : List Int → Bool} : ∀ {vs : List Vt}, (∀ x ∈ vs, r x.1 = (p x.1 || q x.1) ∧ (p x.1 && q x.1) = false) → sumV r vs = sumV p vs + sumV q vs
  | [], _ => rfl
  | x :: vs, h => by
    have ih := sumV_or (p := p) (q := q) (r := r) (vs := vs) (fun y hy => h y (List.mem_cons_of_mem _ hy))
    obtain ⟨h1, h2⟩ := h x (by simp)
    rw [sumV_cons, sumV_cons, sumV_cons, ih, h1]
    cases hp : p x.1 <;> cases hq : q x.1
    · simp
    · simp; omega
    · simp; omega
    · rw [hp, hq] at h2
      exact absurd h2 (by decide)
set_option maxRecDepth 100000 in
theorem sumV_and {p q : List Int → Bool} {sz : Int} : ∀ {vs : List Vt}, SmallV sz vs → sumV p vs + sumV q vs ≤ allV vs + sumV (fun r => p r && q r) vs
  | [], _ => by simp [sumV, allV]
  | x :: vs, h => by
    have ih := sumV_and (p := p) (q := q) h.tail
    have hx := h.head
    rw [sumV_cons, sumV_cons, sumV_cons, allV_cons]
    cases hp : p x.1 <;> cases hq : q x.1 <;> simp <;> omega
set_option maxRecDepth 100000 in
theorem sumV_some {p : List Int → Bool} : ∀ {vs : List Vt}, 0 < sumV p vs → ∃ x ∈ vs, p x.1 = true
  | [], h => by simp [sumV] at h
  | x :: vs, h => by
    cases hp : p x.1
    · rw [sumV_cons, hp] at h
      obtain ⟨y, hy, h2⟩ := sumV_some (p := p) (vs := vs) (by simpa using h)
      exact ⟨y, List.mem_cons_of_mem _ hy, h2⟩
    · exact ⟨x, by simp, hp⟩

set_option maxRecDepth 100000 in
theorem sumV_monoA {p q : List Int → Bool} {sz : Int} : ∀ {vs : List Vt}, SmallV sz vs → (∀ x ∈ vs, p x.1 = true → q x.1 = true) → sumV p vs ≤ sumV q vs
  | [], _, _ => Int.le_refl _
  | x :: vs, hS, h => by
    have ih := sumV_monoA (p := p) (q := q) hS.tail (fun y hy => h y (by simp [hy]))
    have h1 := hS.head
    have h2 := h x (by simp)
    rw [sumV_cons, sumV_cons]
    cases hp : p x.1
    · cases q x.1 <;> simp <;> omega
    · rw [h2 hp]; simp; omega
/-- Peaks before a place. -/
def qlt (ax : List Int) (j : Nat) (r : List Int) : Bool := decide (pkF ax r < (j : Int))
set_option maxRecDepth 100000 in
theorem rk_get {n : Nat} {ax : List Int} (ha : rkOk n ax = true) {i : Nat} (hi : i < n) : ax[i]? = some (ax.getD i 0) := by
  have hl := (rk_len ha).1
  obtain ⟨x, hx⟩ := at_of_lt (xs := ax) (k := i) (by omega)
  rw [hx]
  simp [List.getD, hx]
set_option maxRecDepth 100000 in
theorem pks_part {n : Nat} {ax : List Int} {vs : List Vt} (n1 : 1 ≤ n) (n5 : n ≤ 5) (ha : rkOk n ax = true) (hS : SmallV n vs) (hp : ∀ x ∈ vs, pkO ax x.1 = true) : ∀ j, j ≤ n → ((ax.take j).map (pksF vs)).sum = sumV (qlt ax j) vs
  | 0, _ => by
    have : sumV (qlt ax 0) vs = sumV (fun _ => false) vs := sumV_congr (fun x hx => by
      have h := (pk_r ha n1 n5 (hS.2 x hx).1 (hp x hx)).lo
      unfold qlt
      exact decide_eq_false (by omega))
    rw [this, sumV_none]
    rfl
  | j + 1, hj => by
    have ih := pks_part n1 n5 ha hS hp j (by omega)
    rw [take_mapS (rk_get ha (show j < n by omega)), List.sum_append, ih]
    have : sumV (qlt ax (j + 1)) vs = sumV (qlt ax j) vs + sumV (plcP (ax.getD j 0).toNat 0) vs := sumV_or (fun x hx => by
      have h := pk_r ha n1 n5 (hS.2 x hx).1 (hp x hx)
      rw [← h.fst j (by omega)]
      unfold qlt
      constructor
      · rw [Bool.eq_iff_iff, Bool.or_eq_true, decide_eq_true_iff, decide_eq_true_iff, decide_eq_true_iff]
        omega
      · rw [Bool.and_eq_false_iff, decide_eq_false_iff_not, decide_eq_false_iff_not]
        omega)
    rw [this]
    simp [pksF, fstV, plcV]
set_option maxRecDepth 100000 in
theorem pks_all {n : Nat} {ax : List Int} {vs : List Vt} (n1 : 1 ≤ n) (n5 : n ≤ 5) (ha : rkOk n ax = true) (hS : SmallV n vs) (hp : ∀ x ∈ vs, pkO ax x.1 = true) : (ax.map (pksF vs)).sum = allV vs := by
  have hl := (rk_len ha).1
  have h1 := pks_part n1 n5 ha hS hp n (Nat.le_refl _)
  rw [List.take_of_length_le (by omega)] at h1
  rw [h1]
  exact sumV_congr (fun x hx => by
    have h := (pk_r ha n1 n5 (hS.2 x hx).1 (hp x hx)).hi
    exact decide_eq_true h)
set_option maxRecDepth 100000 in
theorem md_find (V : Int) (f : Int → Int) (hV : 1 ≤ V) : ∀ (bs : List Int) (s : Int), 2 * s < V → V ≤ 2 * (s + (bs.map f).sum) → ∃ (j : Nat) (y : Int), bs[j]? = some y ∧ mdGo V (bs.map f) bs s = y ∧ 2 * (s + ((bs.take j).map f).sum) < V ∧ V ≤ 2 * (s + ((bs.take (j + 1)).map f).sum)
  | [], s, h1, h2 => by simp at h2; omega
  | b :: bs, s, h1, h2 => by
    rw [List.map_cons, List.sum_cons] at h2
    by_cases hq : V ≤ 2 * (s + f b)
    · refine ⟨0, b, rfl, ?_, by simpa using h1, by simpa using hq⟩
      rw [List.map_cons]
      unfold mdGo
      rw [if_pos ⟨by omega, hq⟩]
    · obtain ⟨j, y, e1, e2, e3, e4⟩ := md_find V f hV bs (s + f b) (by omega) (by omega)
      refine ⟨j + 1, y, by simpa using e1, ?_, ?_, ?_⟩
      · rw [List.map_cons]
        unfold mdGo
        rw [if_neg (fun h => hq h.2)]
        exact e2
      · rw [List.take_succ_cons, List.map_cons, List.sum_cons]
        omega
      · rw [List.take_succ_cons, List.map_cons, List.sum_cons]
        omega
set_option maxRecDepth 100000 in
theorem place_get {n : Nat} {ax : List Int} (ha : rkOk n ax = true) {b : Nat} (hb : b < n) : ∃ i : Nat, i < n ∧ placeI ax b = i ∧ ax.getD i 0 = b := by
  obtain ⟨i, hi, h1, h2, _⟩ := place_at ha hb
  exact ⟨i, hi, h1, by simp [List.getD, h2]⟩

/-- What FnPeaks says of a single-peaked profile. -/
structure PeaF (n : Nat) (ax : List Int) (vs : List Vt) : Prop where
  med : ∃ a : Nat, a < n ∧ mdO n ax vs = a ∧ (∀ b : Nat, b < n → marginV vs b a ≤ 0) ∧ (allV vs % 2 = 1 → winnerO n vs = a)
  tr : allV vs % 2 = 1 → transO n vs = true
  wor : worO n vs = true
  sum : (pksO n ax vs).sum = allV vs

set_option maxRecDepth 100000 in
/-- No voter puts the middle one of three last. -/
theorem mid_last {n : Nat} {ax r : List Int} (ha : rkOk n ax = true) (n1 : 1 ≤ n) (n5 : n ≤ 5) (hr : rkOk n r = true) (hp : pkO ax r = true) {a b c : Nat} (hA : a < n) (hB : b < n) (hC : c < n) (h1 : placeI ax b < placeI ax a) (h2 : placeI ax a < placeI ax c) : (prefB r b a && prefB r c a) = false := by
  have h := pk_r ha n1 n5 hr hp
  obtain ⟨i, hi, e1, g1⟩ := place_get ha hB
  obtain ⟨j, hj, e2, g2⟩ := place_get ha hA
  obtain ⟨k, hk, e3, g3⟩ := place_get ha hC
  rw [Bool.and_eq_false_iff]
  by_cases hf : pkF ax r ≤ j
  · have := h.up j k (by omega) hk hf
    rw [g2, g3] at this
    right
    have ht := pref_tot hr hA hC (fun e => by subst e; omega)
    rw [this] at ht
    cases hq : prefB r c a
    · rfl
    · rw [hq] at ht; cases ht
  · have := h.dn i j (by omega) hj (by omega)
    rw [g1, g2] at this
    left
    have ht := pref_tot hr hA hB (fun e => by subst e; omega)
    rw [this] at ht
    cases hq : prefB r b a
    · rfl
    · rw [hq] at ht; cases ht
set_option maxRecDepth 100000 in
theorem mid_lst {n : Nat} {ax : List Int} {vs : List Vt} (ha : rkOk n ax = true) (n1 : 1 ≤ n) (n5 : n ≤ 5) (hS : SmallV n vs) (hp : ∀ x ∈ vs, pkO ax x.1 = true) {a b c : Nat} (hA : a < n) (hB : b < n) (hC : c < n) (h : (placeI ax b < placeI ax a ∧ placeI ax a < placeI ax c) ∨ (placeI ax c < placeI ax a ∧ placeI ax a < placeI ax b)) : lst vs a b c = false := by
  unfold lst
  rw [List.any_eq_false]
  intro x hx
  rcases h with ⟨h1, h2⟩ | ⟨h1, h2⟩
  · rw [mid_last ha n1 n5 (hS.2 x hx).1 (hp x hx) hA hB hC h1 h2]
    decide
  · rw [Bool.and_comm, mid_last ha n1 n5 (hS.2 x hx).1 (hp x hx) hA hC hB h1 h2]
    decide
set_option maxRecDepth 100000 in
theorem place_ne {n : Nat} {ax : List Int} (ha : rkOk n ax = true) {a b : Nat} (hA : a < n) (hB : b < n) (hne : a ≠ b) : placeI ax a ≠ placeI ax b := by
  obtain ⟨i, _, e1, g1⟩ := place_get ha hA
  obtain ⟨j, _, e2, g2⟩ := place_get ha hB
  intro e
  have : i = j := by omega
  subst this
  omega
set_option maxRecDepth 100000 in
theorem pref_transA {r : List Int} {x y z : Int} (h1 : prefB r x y = true) (h2 : prefB r y z = true) : prefB r x z = true := by
  simp only [prefB, Bool.and_eq_true, decide_eq_true_eq] at *
  omega
set_option maxRecDepth 100000 in
/-- With an odd number of voters there is no circle. -/
theorem no_circle {n : Nat} {ax : List Int} {vs : List Vt} (ha : rkOk n ax = true) (n1 : 1 ≤ n) (n5 : n ≤ 5) (hS : SmallV n vs) (hp : ∀ x ∈ vs, pkO ax x.1 = true) {x y z : Nat} (hX : x < n) (hY : y < n) (hZ : z < n) (h : (placeI ax x < placeI ax y ∧ placeI ax y < placeI ax z) ∨ (placeI ax z < placeI ax y ∧ placeI ax y < placeI ax x))
    (h1 : allV vs < 2 * pairV vs x y) (h2 : allV vs < 2 * pairV vs z x) : False := by
  have hand := sumV_and (p := fun r => prefB r x y) (q := fun r => prefB r z x) hS
  unfold pairV at h1 h2
  obtain ⟨v, hv, hb⟩ := sumV_some (p := fun r => prefB r x y && prefB r z x) (vs := vs) (by omega)
  rw [Bool.and_eq_true] at hb
  have hm := mid_lst ha n1 n5 hS hp hY hX hZ h
  unfold lst at hm
  rw [List.any_eq_false] at hm
  exact hm v hv (by rw [hb.1, pref_transA hb.2 hb.1]; rfl)
set_option maxRecDepth 100000 in
theorem pea_f {n : Nat} {ax : List Int} {vs : List Vt} (hpk : pkpB n ax vs = true) (h1 : 1 ≤ vs.length) : PeaF n ax vs := by
  have hpk0 := hpk
  simp only [pkpB, Bool.and_eq_true, List.all_eq_true] at hpk
  obtain ⟨h0, ha, hp⟩ := hpk
  have hsz := prof_size h0
  have hS := prof_small h0
  have n1 : 1 ≤ n := by omega
  have n5 : n ≤ 5 := by omega
  have hal := (rk_len ha).1
  have hV := allV_pos1 hS h1
  have hpo : pksO n ax vs = ax.map (pksF vs) := by unfold pksO; rw [if_pos hpk0]
  have hsum := pks_all n1 n5 ha hS hp
  have hodd : ∀ {a b : Nat}, a < n → b < n → a ≠ b → allV vs % 2 = 1 → beatsV vs a b = true → allV vs < 2 * pairV vs a b := fun {a b} hA hB hne ho hb => by
    have h2 := pair_tot hA hB hne hS
    unfold beatsV at hb
    have := of_decide_eq_true hb
    omega
  refine ⟨?_, fun ho => ?_, ?_, by rw [hpo]; exact hsum⟩
  · obtain ⟨j, y, e1, e2, e3, e4⟩ := md_find (allV vs) (pksF vs) hV ax 0 (by omega) (by omega)
    have hj : j < n := by have := lt_of_at e1; omega
    have hy := rk_mem ha (List.mem_of_getElem? e1)
    obtain ⟨a, rfl⟩ : ∃ a : Nat, y = a := ⟨y.toNat, by omega⟩
    have hA : a < n := by omega
    have hga : ax.getD j 0 = a := by simp [List.getD, e1]
    rw [pks_part n1 n5 ha hS hp j (by omega)] at e3
    rw [pks_part n1 n5 ha hS hp (j + 1) (by omega)] at e4
    have key : ∀ b : Nat, b < n → b ≠ a → allV vs ≤ 2 * pairV vs a b := fun b hB hne => by
      obtain ⟨i, hi, f1, f2⟩ := place_get ha hB
      rcases Nat.lt_trichotomy i j with hlt | heq | hgt
      · have hm : sumV (fun r => !qlt ax j r) vs ≤ pairV vs a b := sumV_monoA hS (fun x hx hq => by
          have h := pk_r ha n1 n5 (hS.2 x hx).1 (hp x hx)
          have hge : (j : Int) ≤ pkF ax x.1 := by
            unfold qlt at hq
            rw [Bool.not_eq_true', decide_eq_false_iff_not] at hq
            omega
          have := h.dn i j hlt hj hge
          rw [f2, hga] at this
          exact this)
        have hs : sumV (fun _ => true) vs = sumV (qlt ax j) vs + sumV (fun r => !qlt ax j r) vs := sumV_or (fun x _ => by cases qlt ax j x.1 <;> exact ⟨rfl, rfl⟩)
        have hs2 : allV vs = sumV (qlt ax j) vs + sumV (fun r => !qlt ax j r) vs := hs
        omega
      · exfalso
        subst heq
        rw [hga] at f2
        omega
      · have hm : sumV (qlt ax (j + 1)) vs ≤ pairV vs a b := sumV_monoA hS (fun x hx hq => by
          have h := pk_r ha n1 n5 (hS.2 x hx).1 (hp x hx)
          have hle : pkF ax x.1 ≤ (j : Int) := by
            unfold qlt at hq
            have := of_decide_eq_true hq
            omega
          have := h.up j i hgt hi hle
          rw [f2, hga] at this
          exact this)
        omega
    refine ⟨a, hA, ?_, fun b hB => ?_, fun ho => ?_⟩
    · unfold mdO
      rw [hpo]
      exact e2
    · by_cases e : b = a
      · subst e
        unfold marginV
        omega
      · have k1 := key b hB e
        have k2 := pair_tot hA hB (fun h => e h.symm) hS
        unfold marginV
        omega
    · have hb : ∀ j, j < n → j ≠ a → bt vs a j = true := fun b hB hne => by
        have k1 := key b hB hne
        have k2 := pair_tot hA hB (fun h => hne h.symm) hS
        unfold bt beatsV
        rw [decide_eq_true_eq]
        omega
      rcases win_cases h0 with ⟨w, hw, e, hw2⟩ | ⟨_, h⟩
      · by_cases e2 : w = a
        · rw [e, e2]
        · have h1 := hb w hw e2
          rw [bt_anti vs _ _ (hw2 a hA (fun e => e2 e.symm))] at h1
          cases h1
      · exact absurd hb (h a hA)
  · unfold transO
    rw [h0, Int.toNat_natCast, Bool.true_and]
    refine allN_iff.2 fun a hA => allN_iff.2 fun b hB => allN_iff.2 fun c hC => ?_
    unfold transC
    cases hab : beatsV vs a b
    · rfl
    cases hbc : beatsV vs b c
    · rfl
    cases hac : beatsV vs a c
    · exfalso
      have nab : a ≠ b := fun e => by subst e; rw [beatsV_self] at hab; cases hab
      have nbc : b ≠ c := fun e => by subst e; rw [beatsV_self] at hbc; cases hbc
      have nac : a ≠ c := fun e => by subst e; rw [beatsV_anti hab] at hbc; cases hbc
      have m1 := hodd hA hB nab ho hab
      have m2 := hodd hB hC nbc ho hbc
      have hca : beatsV vs c a = true := by
        have h2 := pair_tot hA hC nac hS
        unfold beatsV at hac ⊢
        rw [decide_eq_false_iff_not] at hac
        rw [decide_eq_true_eq]
        omega
      have m3 := hodd hC hA (fun e => nac e.symm) ho hca
      have p1 := place_ne ha hA hB nab
      have p2 := place_ne ha hB hC nbc
      have p3 := place_ne ha hA hC nac
      rcases (show ((placeI ax a < placeI ax b ∧ placeI ax b < placeI ax c) ∨ (placeI ax c < placeI ax b ∧ placeI ax b < placeI ax a)) ∨ ((placeI ax b < placeI ax c ∧ placeI ax c < placeI ax a) ∨ (placeI ax a < placeI ax c ∧ placeI ax c < placeI ax b)) ∨ ((placeI ax c < placeI ax a ∧ placeI ax a < placeI ax b) ∨ (placeI ax b < placeI ax a ∧ placeI ax a < placeI ax c)) by omega) with h | h | h
      · exact no_circle ha n1 n5 hS hp hA hB hC h m1 m3
      · exact no_circle ha n1 n5 hS hp hB hC hA h m2 m1
      · exact no_circle ha n1 n5 hS hp hC hA hB h m3 m2
    · rfl
  · unfold worO
    rw [h0, Int.toNat_natCast, Bool.true_and]
    refine allN_iff.2 fun a hA => allN_iff.2 fun b hB => allN_iff.2 fun c hC => ?_
    have p1 := place_ne ha hA (show b < n by omega) (show a ≠ b by omega)
    have p2 := place_ne ha (show b < n by omega) (show c < n by omega) (show b ≠ c by omega)
    have p3 := place_ne ha hA (show c < n by omega) (show a ≠ c by omega)
    unfold triC
    rcases (show ((placeI ax b < placeI ax a ∧ placeI ax a < placeI ax c) ∨ (placeI ax c < placeI ax a ∧ placeI ax a < placeI ax b)) ∨ ((placeI ax a < placeI ax b ∧ placeI ax b < placeI ax c) ∨ (placeI ax c < placeI ax b ∧ placeI ax b < placeI ax a)) ∨ ((placeI ax a < placeI ax c ∧ placeI ax c < placeI ax b) ∨ (placeI ax b < placeI ax c ∧ placeI ax c < placeI ax a)) by omega) with h | h | h
    · rw [mid_lst ha n1 n5 hS hp hA (show b < n by omega) (show c < n by omega) h]
      rfl
    · rw [mid_lst ha n1 n5 hS hp (show b < n by omega) hA (show c < n by omega) h]
      cases lst vs a b c <;> rfl
    · rw [mid_lst ha n1 n5 hS hp (show c < n by omega) hA (show b < n by omega) h]
      cases lst vs a b c <;> cases lst vs b a c <;> rfl

end Go.Proofs.Ytkbbcglghfddjaa
