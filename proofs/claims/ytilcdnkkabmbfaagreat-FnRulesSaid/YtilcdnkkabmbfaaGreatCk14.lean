/- The orders of elimination, on both sides. The orders of elimination of the three rules. The greatest numbers of a list, and where they stand. The level and the winner of Bucklin's rule. -/
import Derived.Test.YtilcdnkkabmbfaaGreatCk13
import Derived.Test.YtilcdnkkabmbfaaGreatCk3
import Derived.Test.YtilcdnkkabmbfaaGreatCk5
import Derived.Test.YtilcdnkkabmbfaaGreatCk7
import Derived.Test.YtilcdnkkabmbfaaGreatCk9
namespace Go.Proofs.YtilcdnkkabmbfaaGreat
open Go.RowKit

set_option maxRecDepth 100000 in
theorem OwnI.formR' {w : World} {B : Nat} {u : Value} {xs : List Int} (h : OwnI w B u xs) : ∃ a n c, u = .slice a n c ∧ n = xs.length ∧ RdI w a xs := by
  obtain ⟨a, c, rfl, _, _, hR, _⟩ := h.val
  exact ⟨_, _, _, rfl, rfl, hR⟩
set_option maxRecDepth 100000 in
theorem pick_nat {n : Nat} {f : Int → Int} {q : Nat → Bool} {i : Nat} (hi : i ≤ n) (hne : upL i q ≠ []) : ∃ p : Nat, p < n ∧ pickV f (upL i q) = p := by
  have h := pickV_mem (f := f) hne
  obtain ⟨p, hp, _, e⟩ := upL_mem.1 h
  exact ⟨p, by omega, e⟩

set_option maxRecDepth 100000 in
set_option maxHeartbeats 8000000 in
theorem order_spec (w : World) (sz : Int) (a : Option Addr) (c : Nat) (vs : List Vt) (kind : Nat) (hk2 : kind ≤ 2) (hR : RdV w a vs) :
    Calls Tryz.prog 202 #[.agg #[.int .i64 sz, .slice a vs.length c], .int .i64 (kind : Int)] w fun e w' => ∃ v, e = .returned v ∧ OwnI w' w.heap.size v (elimO sz vs (worK vs kind)) ∧ Ext w w' := by
  have q0 := new0 w (.int .i64 sz) [.slice a vs.length c] 29
  have q1 := new1 w (.int .i64 sz) (.slice a vs.length c) [] 29
  cases h0 : profOk sz vs
  · go_enter Tryz.func202, Tryz.ntmps202
    go_wp2_with (go_at_call 127; refine (prof_spec _ _ _ _ _ (hR.ext (by repeat (first | exact Ext.refl _ | assumption | refine Ext.alloc ?_ _ | refine Ext.drew ?_ | refine Ext.trans ?_ (by assumption))))).mono ?_; rintro e w1 ⟨rfl, hw1⟩; have q0 := Ext.keep (w' := w1) (by repeat (first | exact Ext.refl _ | assumption | refine Ext.alloc ?_ _ | refine Ext.drew ?_ | refine Ext.trans ?_ (by assumption))) q0; have q1 := Ext.keep (w' := w1) (by repeat (first | exact Ext.refl _ | assumption | refine Ext.alloc ?_ _ | refine Ext.drew ?_ | refine Ext.trans ?_ (by assumption))) q1)
    go_ret
    exact ⟨_, rfl, by simp [elimO, h0]; exact OwnI.nil _ _, (by repeat (first | exact Ext.refl _ | assumption | refine Ext.alloc ?_ _ | refine Ext.drew ?_ | refine Ext.trans ?_ (by assumption)))⟩
  obtain ⟨n, rfl, n1, n2⟩ := prof_nat h0
  have HS := hide (prof_small h0)
  obtain ⟨W, hW⟩ : ∃ W, W = worK vs kind := ⟨_, rfl⟩
  rw [← hW]
  have HW := hide hW
  clear hW
  go_enter Tryz.func202, Tryz.ntmps202
  go_wp2_with (go_at_call 127; refine (prof_spec _ _ _ _ _ (hR.ext (by repeat (first | exact Ext.refl _ | assumption | refine Ext.alloc ?_ _ | refine Ext.drew ?_ | refine Ext.trans ?_ (by assumption))))).mono ?_; rintro e w1 ⟨rfl, hw1⟩; have q0 := Ext.keep (w' := w1) (by repeat (first | exact Ext.refl _ | assumption | refine Ext.alloc ?_ _ | refine Ext.drew ?_ | refine Ext.trans ?_ (by assumption))) q0; have q1 := Ext.keep (w' := w1) (by repeat (first | exact Ext.refl _ | assumption | refine Ext.alloc ?_ _ | refine Ext.drew ?_ | refine Ext.trans ?_ (by assumption))) q1)
  have hw : Ext w w1 := (by repeat (first | exact Ext.refl _ | assumption | refine Ext.alloc ?_ _ | refine Ext.drew ?_ | refine Ext.trans ?_ (by assumption)))
  have hR0 := hR.ext hw
  have hO := OwnI.made0 w1
  have h20 := Ext.new w1 (.cells #[] 3)
  obtain ⟨wb, hwb⟩ : ∃ wb : World, wb = w1 := ⟨_, rfl⟩
  subst hwb
  generalize wb.alloc (.cells #[] 3) = W0 at hO h20 ⊢
  go_loopw [5, 6, 7] (fun v _ _ wr => ∃ k : Nat, k ≤ n ∧ OwnI wr wb.heap.size v (elimL n W k) ∧ Ext wb wr) (fun v _ _ _ => match v with | .slice _ L _ => n - L | _ => 0)
  case atStart => exact ⟨0, Nat.zero_le _, hO, h20⟩
  case round =>
    clear hO h20
    obtain ⟨k, hk, hown, hwr⟩ := hrel
    have hel := elimL_len n W k
    obtain ⟨a5, L5, c5, rfl, hL, hR5⟩ := hown.formR'
    rw [hel] at hL
    subst hL
    have r0 := hwr.keep q0
    by_cases hlt : L5 < n
    · obtain ⟨out, hout⟩ : ∃ out, out = elimL n W L5 := ⟨_, rfl⟩
      rw [← hout] at hR5 hel hown
      have HOUT := hide hout
      have HEL := hide hel
      have hOut : Hid (∀ (x : Int) (w' : World), Ext wr w' → Calls Tryz.prog 207 #[.slice a5 L5 c5, .int .i64 x] w' fun e w'' => e = .returned (.bool (hasI out x)) ∧ Ext w' w'') := fun x w' hw' => by
        have h := out_spec w' a5 c5 out x (hR5.ext hw') (by omega)
        rw [hel] at h
        exact h
      have hBad : Hid (∀ (x : Nat) (w' : World), x < n → Ext wr w' → Calls Tryz.prog 213 #[.agg #[.int .i64 n, .slice a vs.length c], .slice a5 L5 c5, .int .i64 (x : Int), .int .i64 (kind : Int)] w' fun e w'' => e = .returned (.int .i64 (W (leftL n out) x)) ∧ Ext w' w'') := fun x w' hx hw' => by
        have h := bad_spec w' n a a5 c c5 vs out x kind hk2 ((hR0.ext hwr).ext hw') HS.out n2 hx (hR5.ext hw') (by omega)
        rw [hel, ← HW.out] at h
        exact h
      clear hout hel
      have hd : decide (L5 < n) = true := by simpa using hlt
      go_wp2
      obtain ⟨wo, hwo⟩ : ∃ wo : World, wo = wr := ⟨_, rfl⟩
      subst hwo
      go_loopw [6, 7] (fun g i wr => ∃ j : Nat, j ≤ n ∧ i = .int .i64 j ∧ g = .int .i64 (pickV (W (leftL n out)) (upL j (notIn out))) ∧ Ext wo wr) (fun _ i _ => n - (intOf i).toNat)
      case atStart => exact ⟨0, Nat.zero_le _, rfl, rfl, Ext.refl _⟩
      case round =>
        clear r0
        obtain ⟨j, hj, rfl, rfl, hwr'⟩ := hrel
        have r0 := (hwr.trans hwr').keep q0
        have r1 := (hwr.trans hwr').keep q1
        by_cases hjt : j < n
        · cases ho : hasI out (j : Int)
          case true =>
            have hnx : upL (j + 1) (notIn out) = upL j (notIn out) := by rw [upL_succ]; simp [notIn, ho]
            have HN := hide hnx
            clear hnx
            go_wp2
            refine wp_region_X (by kernel_rfl) (by kernel_rfl) ?_
            repeat' (refine wpX_stepQ (fun K hK => ?_)
                     go_simp
                     try (rw [if_neg (by intro h; simp [undef] at h)])
                     try split
                     all_goals
                       first
                       | (refine hK _ ?_
                          clear hK K)
                       | (apply Exists.intro
                          refine ⟨fun wq hwq => ?_, hK _ ?_⟩
                          · have hcq := hwq.cellS
                            go_simp
                            first
                            | exact ⟨Ext.refl _, rfl⟩
                            | exact ⟨Ext.refl _, hOut.out _ _ (by repeat (first | exact Ext.refl _ | assumption | refine Ext.alloc ?_ _ | refine Ext.drew ?_ | refine Ext.trans ?_ (by assumption)))⟩
                          clear hK K))
            refine wpX_nil (fun wz hwz => ?_)
            go_wp2
            exact ⟨⟨j + 1, by omega, by go_num, by rw [HN.out], (by repeat (first | exact Ext.refl _ | assumption | refine Ext.alloc ?_ _ | refine Ext.drew ?_ | refine Ext.trans ?_ (by assumption)))⟩, by simp [intOf]; omega⟩
          have hnx : upL (j + 1) (notIn out) = upL j (notIn out) ++ [(j : Int)] := by rw [upL_succ]; simp [notIn, ho]
          have hpk : pickV (W (leftL n out)) (upL (j + 1) (notIn out)) = if pickV (W (leftL n out)) (upL j (notIn out)) < 0 ∨ W (leftL n out) j ≤ W (leftL n out) (pickV (W (leftL n out)) (upL j (notIn out))) then (j : Int) else pickV (W (leftL n out)) (upL j (notIn out)) := by rw [hnx, pickV_snoc]
          have HN := hide hpk
          clear hpk hnx
          by_cases hne : upL j (notIn out) = []
          · have hp1 : pickV (W (leftL n out)) (upL j (notIn out)) = -1 := by rw [hne]; rfl
            rw [hp1] at HN ⊢
            clear hp1 hne
            go_wp2
            refine wp_region_X (by kernel_rfl) (by kernel_rfl) ?_
            repeat' (refine wpX_stepQ (fun K hK => ?_)
                     go_simp
                     try (rw [if_neg (by intro h; simp [undef] at h)])
                     try split
                     all_goals
                       first
                       | (refine hK _ ?_
                          clear hK K)
                       | (apply Exists.intro
                          refine ⟨fun wq hwq => ?_, hK _ ?_⟩
                          · have hcq := hwq.cellS
                            go_simp
                            first
                            | exact ⟨Ext.refl _, rfl⟩
                            | exact ⟨Ext.refl _, hOut.out _ _ (by repeat (first | exact Ext.refl _ | assumption | refine Ext.alloc ?_ _ | refine Ext.drew ?_ | refine Ext.trans ?_ (by assumption)))⟩
                          clear hK K))
            refine wpX_nil (fun wz hwz => ?_)
            go_wp2
            exact ⟨⟨j + 1, by omega, by go_num, by rw [HN.out, if_pos (.inl (by decide))], (by repeat (first | exact Ext.refl _ | assumption | refine Ext.alloc ?_ _ | refine Ext.drew ?_ | refine Ext.trans ?_ (by assumption)))⟩, by simp [intOf]; omega⟩
          · obtain ⟨p, hp, hpe⟩ := pick_nat (f := W (leftL n out)) (q := notIn out) (n := n) (i := j) hj hne
            rw [hpe] at HN ⊢
            clear hpe hne
            have hp0 : ¬ ((p : Int) < 0) := by omega
            by_cases ht : W (leftL n out) j ≤ W (leftL n out) p
            · go_wp2
              refine wp_region_X (by kernel_rfl) (by kernel_rfl) ?_
              repeat' (refine wpX_stepQ (fun K hK => ?_)
                       go_simp
                       try (rw [if_neg (by intro h; simp [undef] at h)])
                       try split
                       all_goals
                         first
                         | (refine hK _ ?_
                            clear hK K)
                         | (apply Exists.intro
                            refine ⟨fun wq hwq => ?_, hK _ ?_⟩
                            · have hcq := hwq.cellS
                              go_simp
                              first
                              | exact ⟨Ext.refl _, rfl⟩
                              | exact ⟨Ext.refl _, hOut.out _ _ (by repeat (first | exact Ext.refl _ | assumption | refine Ext.alloc ?_ _ | refine Ext.drew ?_ | refine Ext.trans ?_ (by assumption)))⟩
                              | exact ⟨Ext.refl _, hBad.out _ _ (by assumption) (by repeat (first | exact Ext.refl _ | assumption | refine Ext.alloc ?_ _ | refine Ext.drew ?_ | refine Ext.trans ?_ (by assumption)))⟩
                            clear hK K))
              refine wpX_nil (fun wz hwz => ?_)
              go_wp2
              exact ⟨⟨j + 1, by omega, by go_num, by rw [HN.out, if_pos (.inr ht)], (by repeat (first | exact Ext.refl _ | assumption | refine Ext.alloc ?_ _ | refine Ext.drew ?_ | refine Ext.trans ?_ (by assumption)))⟩, by simp [intOf]; omega⟩
            · go_wp2
              refine wp_region_X (by kernel_rfl) (by kernel_rfl) ?_
              repeat' (refine wpX_stepQ (fun K hK => ?_)
                       go_simp
                       try (rw [if_neg (by intro h; simp [undef] at h)])
                       try split
                       all_goals
                         first
                         | (refine hK _ ?_
                            clear hK K)
                         | (apply Exists.intro
                            refine ⟨fun wq hwq => ?_, hK _ ?_⟩
                            · have hcq := hwq.cellS
                              go_simp
                              first
                              | exact ⟨Ext.refl _, rfl⟩
                              | exact ⟨Ext.refl _, hOut.out _ _ (by repeat (first | exact Ext.refl _ | assumption | refine Ext.alloc ?_ _ | refine Ext.drew ?_ | refine Ext.trans ?_ (by assumption)))⟩
                              | exact ⟨Ext.refl _, hBad.out _ _ (by assumption) (by repeat (first | exact Ext.refl _ | assumption | refine Ext.alloc ?_ _ | refine Ext.drew ?_ | refine Ext.trans ?_ (by assumption)))⟩
                            clear hK K))
              refine wpX_nil (fun wz hwz => ?_)
              go_wp2
              exact ⟨⟨j + 1, by omega, by go_num, by rw [HN.out, if_neg (fun h => by rcases h with h | h <;> omega)], (by repeat (first | exact Ext.refl _ | assumption | refine Ext.alloc ?_ _ | refine Ext.drew ?_ | refine Ext.trans ?_ (by assumption)))⟩, by simp [intOf]; omega⟩
        · have hjn : j = n := by omega
          have HT : pickV (W (leftL n out)) (upL j (notIn out)) = pickV (W (leftL n out)) (leftL n out) := by rw [hjn]; rfl
          rw [HT]
          clear HT
          have hown := hown.ext hwr'
          go_wp2_with (at_builtin; refine wpList_appI wb _ rfl _ _ rfl _ (out) _ rfl (hown.ext (by repeat (first | exact Ext.refl _ | assumption | refine Ext.alloc ?_ _ | refine Ext.drew ?_ | refine Ext.trans ?_ (by assumption)))) (by repeat (first | exact Ext.refl _ | assumption | refine Ext.alloc ?_ _ | refine Ext.drew ?_ | refine Ext.trans ?_ (by assumption))) rfl (by rw [HEL.out]; omega) ?_; intro v' w3 hown3 hw3)
          refine ⟨⟨L5 + 1, by omega, ?_, hw3⟩, ?_⟩
          · show OwnI _ _ _ (elimL n W L5 ++ [pickV (W (leftL n (elimL n W L5))) (leftL n (elimL n W L5))])
            rw [← HOUT.out]; exact hown3
          · obtain ⟨a6, L6, c6, e6, hL6, _⟩ := hown3.formR'
            subst e6
            rw [List.length_append, HEL.out] at hL6
            show n - L6 < n - L5
            simp at hL6
            omega
    · have hkn : L5 = n := by omega
      go_wp2
      go_ret
      refine ⟨_, rfl, ?_, hw.trans hwr⟩
      have he : elimO n vs W = elimL n W L5 := by simp [elimO, h0, hkn]
      rw [he]
      exact hown.base hw.size

set_option maxRecDepth 100000 in
set_option maxHeartbeats 1000000 in
theorem inst_spec (w : World) (sz : Int) (a : Option Addr) (c : Nat) (vs : List Vt) (hR : RdV w a vs) :
    Calls Tryz.prog 182 #[.agg #[.int .i64 sz, .slice a vs.length c]] w fun e w' => ∃ v, e = .returned v ∧ OwnI w' w.heap.size v (elimO sz vs (worF vs)) ∧ Ext w w' := by
  have H : ∀ w0, RdV w0 a vs → Calls Tryz.prog 202 #[.agg #[.int .i64 sz, .slice a vs.length c], .int .i64 0] w0 fun e w' => ∃ v, e = .returned v ∧ OwnI w' w0.heap.size v (elimO sz vs (worF vs)) ∧ Ext w0 w' := fun w0 h => order_spec w0 sz a c vs 0 (by decide) h
  have HH := hide H
  clear H
  go_enter Tryz.func182, Tryz.ntmps182
  go_wp2_with fail
  refine (HH.out _ (hR.ext (by repeat (first | exact Ext.refl _ | assumption | refine Ext.alloc ?_ _ | refine Ext.drew ?_ | refine Ext.trans ?_ (by assumption))))).mono ?_
  rintro e w1 ⟨v, rfl, hv, hw1⟩
  go_wp2
  go_ret
  exact ⟨_, rfl, hv.base (Ext.size (by repeat (first | exact Ext.refl _ | assumption | refine Ext.alloc ?_ _ | refine Ext.drew ?_ | refine Ext.trans ?_ (by assumption)))), (by repeat (first | exact Ext.refl _ | assumption | refine Ext.alloc ?_ _ | refine Ext.drew ?_ | refine Ext.trans ?_ (by assumption)))⟩

set_option maxRecDepth 100000 in
set_option maxHeartbeats 1000000 in
theorem coom_spec (w : World) (sz : Int) (a : Option Addr) (c : Nat) (vs : List Vt) (hR : RdV w a vs) :
    Calls Tryz.prog 183 #[.agg #[.int .i64 sz, .slice a vs.length c]] w fun e w' => ∃ v, e = .returned v ∧ OwnI w' w.heap.size v (elimO sz vs (worL vs)) ∧ Ext w w' := by
  have H : ∀ w0, RdV w0 a vs → Calls Tryz.prog 202 #[.agg #[.int .i64 sz, .slice a vs.length c], .int .i64 1] w0 fun e w' => ∃ v, e = .returned v ∧ OwnI w' w0.heap.size v (elimO sz vs (worL vs)) ∧ Ext w0 w' := fun w0 h => order_spec w0 sz a c vs 1 (by decide) h
  have HH := hide H
  clear H
  go_enter Tryz.func183, Tryz.ntmps183
  go_wp2_with fail
  refine (HH.out _ (hR.ext (by repeat (first | exact Ext.refl _ | assumption | refine Ext.alloc ?_ _ | refine Ext.drew ?_ | refine Ext.trans ?_ (by assumption))))).mono ?_
  rintro e w1 ⟨v, rfl, hv, hw1⟩
  go_wp2
  go_ret
  exact ⟨_, rfl, hv.base (Ext.size (by repeat (first | exact Ext.refl _ | assumption | refine Ext.alloc ?_ _ | refine Ext.drew ?_ | refine Ext.trans ?_ (by assumption)))), (by repeat (first | exact Ext.refl _ | assumption | refine Ext.alloc ?_ _ | refine Ext.drew ?_ | refine Ext.trans ?_ (by assumption)))⟩

set_option maxRecDepth 100000 in
set_option maxHeartbeats 1000000 in
theorem bald_spec (w : World) (sz : Int) (a : Option Addr) (c : Nat) (vs : List Vt) (hR : RdV w a vs) :
    Calls Tryz.prog 184 #[.agg #[.int .i64 sz, .slice a vs.length c]] w fun e w' => ∃ v, e = .returned v ∧ OwnI w' w.heap.size v (elimO sz vs (worP vs)) ∧ Ext w w' := by
  have H : ∀ w0, RdV w0 a vs → Calls Tryz.prog 202 #[.agg #[.int .i64 sz, .slice a vs.length c], .int .i64 2] w0 fun e w' => ∃ v, e = .returned v ∧ OwnI w' w0.heap.size v (elimO sz vs (worP vs)) ∧ Ext w0 w' := fun w0 h => order_spec w0 sz a c vs 2 (by decide) h
  have HH := hide H
  clear H
  go_enter Tryz.func184, Tryz.ntmps184
  go_wp2_with fail
  refine (HH.out _ (hR.ext (by repeat (first | exact Ext.refl _ | assumption | refine Ext.alloc ?_ _ | refine Ext.drew ?_ | refine Ext.trans ?_ (by assumption))))).mono ?_
  rintro e w1 ⟨v, rfl, hv, hw1⟩
  go_wp2
  go_ret
  exact ⟨_, rfl, hv.base (Ext.size (by repeat (first | exact Ext.refl _ | assumption | refine Ext.alloc ?_ _ | refine Ext.drew ?_ | refine Ext.trans ?_ (by assumption)))), (by repeat (first | exact Ext.refl _ | assumption | refine Ext.alloc ?_ _ | refine Ext.drew ?_ | refine Ext.trans ?_ (by assumption)))⟩

def maxL : List Int → Int
  | [] => 0
  | x :: xs => xs.foldl max x
set_option maxRecDepth 100000 in
theorem maxL_snoc {ys : List Int} (x : Int) (h : ys ≠ []) : maxL (ys ++ [x]) = max (maxL ys) x := by
  cases ys with
  | nil => exact absurd rfl h
  | cons y ys => simp [maxL]
set_option maxRecDepth 100000 in
theorem maxL_at {xs : List Int} {k : Nat} {x : Int} (h : xs[k]? = some x) (hk : 1 ≤ k) : maxL (xs.take (k + 1)) = max (maxL (xs.take k)) x := by
  rw [take_at h]
  exact maxL_snoc x (fun e => by
    have := lt_of_at h
    have h2 : (xs.take k).length = 0 := by rw [e]; rfl
    rw [List.length_take] at h2; omega)
set_option maxRecDepth 100000 in
theorem foldl_ge (xs : List Int) : ∀ x, x ≤ xs.foldl max x ∧ ∀ y ∈ xs, y ≤ xs.foldl max x := by
  induction xs with
  | nil => intro x; simp
  | cons z xs ih =>
    intro x
    have h := ih (max x z)
    simp only [List.foldl_cons]
    refine ⟨by omega, fun y hy => ?_⟩
    rcases List.mem_cons.1 hy with rfl | hy
    · omega
    · exact h.2 y hy
set_option maxRecDepth 100000 in
theorem maxL_ge {xs : List Int} {x : Int} (h : x ∈ xs) : x ≤ maxL xs := by
  cases xs with
  | nil => cases h
  | cons z xs =>
    rcases List.mem_cons.1 h with rfl | h
    · exact (foldl_ge xs x).1
    · exact (foldl_ge xs z).2 x h
set_option maxRecDepth 100000 in
theorem foldl_mem (xs : List Int) : ∀ x, xs.foldl max x = x ∨ xs.foldl max x ∈ xs := by
  induction xs with
  | nil => intro x; exact .inl rfl
  | cons z xs ih =>
    intro x
    simp only [List.foldl_cons]
    rcases ih (max x z) with h | h
    · rw [h]
      by_cases e : x ≤ z
      · right; rw [show max x z = z by omega]; simp
      · left; omega
    · right; exact List.mem_cons_of_mem _ h
set_option maxRecDepth 100000 in
theorem maxL_mem {xs : List Int} (h : xs ≠ []) : maxL xs ∈ xs := by
  cases xs with
  | nil => exact absurd rfl h
  | cons z xs =>
    rcases foldl_mem xs z with h | h
    · show xs.foldl max z ∈ _
      rw [h]; simp
    · exact List.mem_cons_of_mem _ h

def isMax (xs : List Int) (m : Int) (i : Nat) : Bool := decide (xs[i]? = some m)
def bestL (xs : List Int) : List Int := upL xs.length (isMax xs (maxL xs))
/-- The best of the first k. -/
def bestT (xs : List Int) (k : Nat) : List Int := upL k (isMax xs (maxL (xs.take k)))
set_option maxRecDepth 100000 in
theorem bestT_all (xs : List Int) : bestT xs xs.length = bestL xs := by unfold bestT bestL; rw [List.take_length]
set_option maxRecDepth 100000 in
theorem bestT_len (xs : List Int) (k : Nat) : (bestT xs k).length ≤ k := upL_len _ _
set_option maxRecDepth 100000 in
theorem upL_none' {n : Nat} {q : Nat → Bool} (h : ∀ j, j < n → q j = false) : upL n q = [] := by
  unfold upL
  rw [List.map_eq_nil_iff, List.filter_eq_nil_iff]
  intro x hx
  rw [h x (List.mem_range.1 hx)]; simp
set_option maxRecDepth 100000 in
theorem bestT_new {xs : List Int} {k : Nat} {x : Int} (hx : xs[k]? = some x) (h : k = 0 ∨ maxL (xs.take k) < x) : bestT xs (k + 1) = [(k : Int)] := by
  have hm : maxL (xs.take (k + 1)) = x := by
    rcases h with rfl | h
    · rw [take_at hx]; simp [maxL]
    · by_cases hk : k = 0
      · subst hk; rw [take_at hx]; simp [maxL]
      · rw [maxL_at hx (by omega)]; omega
  unfold bestT
  rw [hm, upL_succ, upL_none' (fun j hj => ?_)]
  · simp [isMax, hx]
  · unfold isMax
    rw [decide_eq_false_iff_not]
    intro e
    have h1 : x ∈ xs.take k := by rw [List.mem_iff_getElem?]; exact ⟨j, by rw [List.getElem?_take_of_lt hj]; exact e⟩
    have h2 := maxL_ge h1
    omega
set_option maxRecDepth 100000 in
theorem bestT_tie {xs : List Int} {k : Nat} {x : Int} (hx : xs[k]? = some x) (hk : 1 ≤ k) (h : x = maxL (xs.take k)) : bestT xs (k + 1) = bestT xs k ++ [(k : Int)] := by
  have hm : maxL (xs.take (k + 1)) = maxL (xs.take k) := by rw [maxL_at hx hk]; omega
  unfold bestT
  rw [hm, upL_succ]
  simp [isMax, hx, h]
set_option maxRecDepth 100000 in
theorem bestT_not {xs : List Int} {k : Nat} {x : Int} (hx : xs[k]? = some x) (hk : 1 ≤ k) (h : x < maxL (xs.take k)) : bestT xs (k + 1) = bestT xs k := by
  have hm : maxL (xs.take (k + 1)) = maxL (xs.take k) := by rw [maxL_at hx hk]; omega
  have hne : ¬ x = maxL (xs.take k) := by omega
  unfold bestT
  rw [hm, upL_succ]
  simp [isMax, hx, hne]
set_option maxRecDepth 100000 in
theorem bestT_head {xs : List Int} {k : Nat} (hk : 1 ≤ k) (hl : k ≤ xs.length) : ∃ (i : Nat) (r : List Int), bestT xs k = (i : Int) :: r ∧ xs[i]? = some (maxL (xs.take k)) ∧ i < k ∧ ∀ j, j < i → xs[j]? ≠ some (maxL (xs.take k)) := by
  have hne : xs.take k ≠ [] := fun e => by
    have h2 : (xs.take k).length = 0 := by rw [e]; rfl
    rw [List.length_take] at h2; omega
  obtain ⟨i, hi⟩ := List.mem_iff_getElem?.1 (maxL_mem hne)
  have hik : i < k := by have := lt_of_at hi; rw [List.length_take] at this; omega
  rw [List.getElem?_take_of_lt hik] at hi
  have hq : isMax xs (maxL (xs.take k)) i = true := by simp [isMax, hi]
  unfold bestT
  generalize maxL (xs.take k) = m at hi hq ⊢
  clear hne hk hl
  induction k with
  | zero => omega
  | succ k ih =>
    by_cases hlt : i < k
    · obtain ⟨i0, r, h1, h2⟩ := ih hlt
      rw [upL_succ, h1]
      exact ⟨i0, r ++ _, rfl, h2.1, by omega, h2.2.2⟩
    · have hik : i = k := by omega
      subst hik
      by_cases hall : ∀ j, j < i → isMax xs m j = false
      · rw [upL_succ, upL_none' hall, hq]
        exact ⟨i, [], rfl, hi, by omega, fun j hj e => by have := hall j hj; simp [isMax, e] at this⟩
      · have : ∃ j, j < i ∧ isMax xs m j = true := by
          apply Classical.byContradiction
          intro hno
          exact hall (fun j hj => by
            cases h : isMax xs m j
            · rfl
            · exact absurd ⟨j, hj, h⟩ hno)
        obtain ⟨j, hj, hq2⟩ := this
        have key : ∀ k j, j < k → isMax xs m j = true → ∃ (i : Nat) (r : List Int), upL k (isMax xs m) = (i : Int) :: r ∧ xs[i]? = some m ∧ i < k ∧ ∀ j, j < i → xs[j]? ≠ some m := by
          intro k
          induction k with
          | zero => intro j hj; omega
          | succ k ih2 =>
            intro j hj hqj
            by_cases hex : ∃ j', j' < k ∧ isMax xs m j' = true
            · obtain ⟨j', hj', hq'⟩ := hex
              obtain ⟨i0, r, h1, h2, h3, h4⟩ := ih2 j' hj' hq'
              rw [upL_succ, h1]
              exact ⟨i0, r ++ _, rfl, h2, by omega, h4⟩
            · have hno : ∀ j', j' < k → isMax xs m j' = false := fun j' hj' => by
                cases h : isMax xs m j'
                · rfl
                · exact absurd ⟨j', hj', h⟩ hex
              have hjk : j = k := by
                rcases Nat.lt_or_ge j k with h | h
                · rw [hno j h] at hqj; cases hqj
                · omega
              subst hjk
              rw [upL_succ, upL_none' hno, hqj]
              exact ⟨j, [], rfl, by simpa [isMax] using hqj, by omega, fun j' hj' e => by have := hno j' hj'; simp [isMax, e] at this⟩
        exact key (i + 1) j (by omega) hq2

set_option maxRecDepth 100000 in
theorem OwnI.lit1 (w : World) (y : Int) : OwnI (w.alloc (.cells #[.int .i64 y] 3)) w.heap.size (.slice (some ⟨w.heap.size, 0, none⟩) 1 1) [y] :=
  ⟨rfl, .inr ⟨w.heap.size, 1, #[.int .i64 y], rfl, Nat.le_refl _, heap_alloc_new _ _, Nat.le_refl _, by simp [maxLen], rfl, rfl⟩⟩
set_option maxRecDepth 100000 in
theorem max_if (x y : Int) : (if x < y then y else x) = max x y := by split <;> omega
set_option maxRecDepth 100000 in
theorem max_if' (x y : Int) : (if y < x then x else y) = max x y := by split <;> omega

set_option maxRecDepth 100000 in
set_option maxHeartbeats 1000000 in
theorem max_impl (w : World) (a : Option Addr) (c : Nat) (xs : List Int) (hR : RdI w a xs) (hl : xs.length ≤ 2000000) (hne : 1 ≤ xs.length) :
    Calls Tryz.prog 86 #[.slice a xs.length c] w fun e w' => e = .returned (.int .i64 (maxL xs)) ∧ Ext w w' := by
  obtain ⟨x, hx⟩ := at_of_lt (xs := xs) (k := 0) (by omega)
  obtain ⟨b, off, rfl, c0⟩ := hR.at_ hx
  rw [Nat.add_zero] at c0
  have h1 : x = maxL (xs.take 1) := by
    cases xs with
    | nil => simp at hx
    | cons y ys => simp at hx; subst hx; simp [maxL]
  have H1 := hide h1
  clear hx h1
  go_enter Tryz.func86, Tryz.ntmps86
  go_wp2_with fail
  rw [H1.out]
  go_loopw [3, 4] (fun s i wr => ∃ k : Nat, 1 ≤ k ∧ k ≤ xs.length ∧ i = .int .i64 k ∧ s = .int .i64 (maxL (xs.take k)) ∧ Ext w wr) (fun _ i _ => xs.length - (intOf i).toNat)
  case atStart => exact ⟨1, by omega, hne, rfl, rfl, Ext.refl _⟩
  case round =>
    obtain ⟨k, hk1, hk, rfl, rfl, hwr⟩ := hrel
    by_cases hlt : k < xs.length
    · obtain ⟨y, hy⟩ := at_of_lt hlt
      obtain ⟨b', off', hb, c1⟩ := (hR.ext hwr).at_ hy
      injection hb with hb
      injection hb with hb hb2
      subst hb
      subst hb2
      have HY := hide hy
      clear hy
      go_wp2
      exact ⟨⟨k + 1, by omega, by omega, by go_num, by rw [maxL_at HY.out hk1]; first | rw [← max_if] | rw [← max_if'], (by repeat (first | exact Ext.refl _ | assumption | refine Ext.alloc ?_ _ | refine Ext.drew ?_ | refine Ext.trans ?_ (by assumption)))⟩, by simp [intOf]; omega⟩
    · go_wp2
      go_ret
      exact ⟨ret_int (by rw [List.take_of_length_le (by omega)]), hwr⟩

set_option maxRecDepth 100000 in
set_option maxHeartbeats 1000000 in
theorem gr_impl (w : World) (a : Option Addr) (c : Nat) (xs : List Int) (hR : RdI w a xs) (hl : xs.length ≤ 1000000) :
    Calls Tryz.prog 41 #[.slice a xs.length c] w fun e w' => ∃ v, e = .returned v ∧ OwnI w' w.heap.size v (bestL xs) ∧ Ext w w' := by
  go_enter Tryz.func41, Tryz.ntmps41
  go_wp2_with fail
  go_loopw [3, 4, 5, 8] (fun v _ _ i wr => ∃ k : Nat, k ≤ xs.length ∧ i = .int .i64 k ∧ OwnI wr w.heap.size v (upL k (isMax xs (maxL xs))) ∧ Ext w wr) (fun _ _ _ i _ => xs.length - (intOf i).toNat)
  case atStart => exact ⟨0, Nat.zero_le _, rfl, OwnI.nil _ _, Ext.refl _⟩
  case round =>
    obtain ⟨k, hk, rfl, hown, hwr⟩ := hrel
    have hul := upL_len k (isMax xs (maxL xs))
    by_cases hlt : k < xs.length
    · obtain ⟨y, hy⟩ := at_of_lt hlt
      obtain ⟨b', off', rfl, c1⟩ := (hR.ext hwr).at_ hy
      have HY := hide hy
      clear hy
      cases hq : (y == maxL xs)
      · go_wp2_with (go_at_call 86; refine (max_impl _ _ _ _ (hR.ext (by repeat (first | exact Ext.refl _ | assumption | refine Ext.alloc ?_ _ | refine Ext.drew ?_ | refine Ext.trans ?_ (by assumption)))) (by omega) (by omega)).mono ?_; rintro e w1 ⟨rfl, hw1⟩)
        exact ⟨⟨k + 1, by omega, by go_num, by rw [upL_succ, show isMax xs (maxL xs) k = false by simp only [isMax, HY.out]; simpa using hq]; simpa using hown.ext hw1, (by repeat (first | exact Ext.refl _ | assumption | refine Ext.alloc ?_ _ | refine Ext.drew ?_ | refine Ext.trans ?_ (by assumption)))⟩, by simp [intOf]; omega⟩
      · go_wp2_with (first | (go_at_call 86; refine (max_impl _ _ _ _ (hR.ext (by repeat (first | exact Ext.refl _ | assumption | refine Ext.alloc ?_ _ | refine Ext.drew ?_ | refine Ext.trans ?_ (by assumption)))) (by omega) (by omega)).mono ?_; rintro e w1 ⟨rfl, hw1⟩) | (at_builtin; refine wpList_appI w _ rfl _ _ rfl _ (upL k (isMax xs (maxL xs))) _ rfl (hown.ext (by repeat (first | exact Ext.refl _ | assumption | refine Ext.alloc ?_ _ | refine Ext.drew ?_ | refine Ext.trans ?_ (by assumption)))) (by repeat (first | exact Ext.refl _ | assumption | refine Ext.alloc ?_ _ | refine Ext.drew ?_ | refine Ext.trans ?_ (by assumption))) rfl (by omega) ?_; intro v' w3 hown3 hw3))
        exact ⟨⟨k + 1, by omega, by go_num, by rw [upL_succ, show isMax xs (maxL xs) k = true by simp only [isMax, HY.out]; simpa using hq]; exact hown3, (by repeat (first | exact Ext.refl _ | assumption | refine Ext.alloc ?_ _ | refine Ext.drew ?_ | refine Ext.trans ?_ (by assumption)))⟩, by simp [intOf]; omega⟩
    · have hkl : k = xs.length := by omega
      go_wp2
      go_ret
      rw [hkl] at hown
      exact ⟨_, rfl, hown, hwr⟩

set_option maxRecDepth 100000 in
set_option maxHeartbeats 2000000 in
theorem best_spec5 (w : World) (a : Option Addr) (c : Nat) (xs : List Int) (hR : RdI w a xs) (hl : xs.length ≤ 1000000) :
    Calls Tryz.prog 177 #[.slice a xs.length c] w fun e w' => ∃ v, e = .returned v ∧ OwnI w' w.heap.size v (bestL xs) ∧ Ext w w' := by
  go_enter Tryz.func177, Tryz.ntmps177
  go_wp2_with fail
  have hO := OwnI.made0 w
  have hE := Ext.new w (.cells #[] 3)
  generalize w.alloc (.cells #[] 3) = W0 at hO hE ⊢
  go_loopw [3, 4, 5, 9] (fun v _ _ i wr => ∃ k : Nat, k ≤ xs.length ∧ i = .int .i64 k ∧ OwnI wr w.heap.size v (bestT xs k) ∧ Ext w wr) (fun _ _ _ i _ => xs.length - (intOf i).toNat)
  case atStart => exact ⟨0, Nat.zero_le _, rfl, hO, hE⟩
  case round =>
    clear hO hE
    obtain ⟨k, hk, rfl, hown, hwr⟩ := hrel
    have hul := bestT_len xs k
    by_cases hlt : k < xs.length
    · obtain ⟨y, hy⟩ := at_of_lt hlt
      obtain ⟨b', off', rfl, c1⟩ := (hR.ext hwr).at_ hy
      by_cases hk0 : k = 0
      · obtain ⟨a3, c3, rfl, _⟩ := hown.val
        have HN := hide (bestT_new hy (.inl hk0))
        rw [show (bestT xs k).length = 0 by omega]
        have HK := hide hk0
        clear hy hown hk0
        go_wp2
        exact ⟨⟨k + 1, by omega, by go_num, by rw [HN.out]; exact (OwnI.lit1 wr _).base hwr.size, (by repeat (first | exact Ext.refl _ | assumption | refine Ext.alloc ?_ _ | refine Ext.drew ?_ | refine Ext.trans ?_ (by assumption)))⟩, by simp [intOf]; omega⟩
      · obtain ⟨i0, r, hb, hm, hi0, _⟩ := bestT_head (xs := xs) (k := k) (by omega) hk
        obtain ⟨a3, c3, rfl, _, _, hR3, _⟩ := hown.val
        obtain ⟨b3, off3, rfl, d0⟩ := hR3.at_ (k := 0) (x := (i0 : Int)) (by rw [hb]; rfl)
        obtain ⟨b4, off4, hbb, d1⟩ := (hR.ext hwr).at_ hm
        injection hbb with hbb
        injection hbb with hbb hbb2
        subst hbb
        subst hbb2
        have hlen : 1 ≤ (bestT xs k).length := by rw [hb]; simp
        rw [Nat.add_zero] at d0
        have HB := hide hb
        obtain ⟨L, hL⟩ : ∃ L : Nat, L = (bestT xs k).length := ⟨_, rfl⟩
        rw [← hL] at hlen hul hown ⊢
        have HL := hide hL
        have t0 : ((L : Int) == 0) = false := by simp; omega
        clear hb hL
        rcases Int.lt_trichotomy y (maxL (xs.take k)) with h1 | h1 | h1
        · have HN := hide (bestT_not hy (by omega) h1)
          have t1 : ¬ (maxL (xs.take k) < y) := by omega
          have t2 : (y == maxL (xs.take k)) = false := by simp; omega
          have HY := hide hy
          clear hy hm h1
          go_wp2
          exact ⟨⟨k + 1, by omega, by go_num, by rw [HN.out]; exact hown, (by repeat (first | exact Ext.refl _ | assumption | refine Ext.alloc ?_ _ | refine Ext.drew ?_ | refine Ext.trans ?_ (by assumption)))⟩, by simp [intOf]; omega⟩
        · have HN := hide (bestT_tie hy (by omega) h1)
          have t1 : ¬ (maxL (xs.take k) < y) := by omega
          have t2 : (y == maxL (xs.take k)) = true := by simp; omega
          have HY := hide hy
          clear hy hm h1
          go_wp2_with (at_builtin; refine wpList_appI w _ rfl _ _ rfl _ (bestT xs k) _ rfl (hown.ext (by repeat (first | exact Ext.refl _ | assumption | refine Ext.alloc ?_ _ | refine Ext.drew ?_ | refine Ext.trans ?_ (by assumption)))) (by repeat (first | exact Ext.refl _ | assumption | refine Ext.alloc ?_ _ | refine Ext.drew ?_ | refine Ext.trans ?_ (by assumption))) rfl (by rw [← HL.out]; omega) ?_; intro v' w3 hown3 hw3)
          exact ⟨⟨k + 1, by omega, by go_num, by rw [HN.out]; exact hown3, (by repeat (first | exact Ext.refl _ | assumption | refine Ext.alloc ?_ _ | refine Ext.drew ?_ | refine Ext.trans ?_ (by assumption)))⟩, by simp [intOf]; omega⟩
        · have HN := hide (bestT_new hy (.inr h1))
          have HY := hide hy
          clear hy hm
          go_wp2
          exact ⟨⟨k + 1, by omega, by go_num, by rw [HN.out]; exact (OwnI.lit1 wr _).base hwr.size, (by repeat (first | exact Ext.refl _ | assumption | refine Ext.alloc ?_ _ | refine Ext.drew ?_ | refine Ext.trans ?_ (by assumption)))⟩, by simp [intOf]; omega⟩
    · have hkl : k = xs.length := by omega
      go_wp2
      go_ret
      rw [hkl, bestT_all] at hown
      exact ⟨_, rfl, hown, hwr⟩

def bukA (vs : List Vt) (k a : Nat) : Bool := decide (allV vs < 2 * wthV vs k a)
def bukN (n : Nat) (vs : List Vt) (k : Nat) : Bool := allN n (fun a => !bukA vs k a)
def levV (n : Nat) (vs : List Vt) : Nat := match (List.range n).find? (fun j => !bukN n vs (j + 1)) with
  | some j => j + 1
  | none => 0
set_option maxRecDepth 100000 in
theorem levV_at {n : Nat} {vs : List Vt} {j : Nat} (hj : j < n) (h : ∀ i, i < j → bukN n vs (i + 1) = true) (hh : bukN n vs (j + 1) = false) : levV n vs = j + 1 := by
  have e : (List.range n).find? (fun j => !bukN n vs (j + 1)) = some j := by
    rw [List.find?_range_eq_some]
    exact ⟨by simp [hh], List.mem_range.2 hj, fun i hi => by simp [h i hi]⟩
  unfold levV; rw [e]
set_option maxRecDepth 100000 in
theorem levV_none {n : Nat} {vs : List Vt} (h : ∀ i, i < n → bukN n vs (i + 1) = true) : levV n vs = 0 := by
  have e : (List.range n).find? (fun j => !bukN n vs (j + 1)) = none := by
    rw [List.find?_range_eq_none]
    exact fun i hi => by simp [h i hi]
  unfold levV; rw [e]
set_option maxRecDepth 100000 in
theorem levV_le (n : Nat) (vs : List Vt) : levV n vs ≤ n := by
  unfold levV
  cases e : (List.range n).find? (fun j => !bukN n vs (j + 1)) with
  | none => simp
  | some j =>
    have := List.mem_of_find?_eq_some e
    have := List.mem_range.1 this
    simp; omega
def levO (sz : Int) (vs : List Vt) : Int := if profOk sz vs then (levV sz.toNat vs : Int) else -1
def bukO (sz : Int) (vs : List Vt) : Int := if profOk sz vs then (bestL (rowL sz.toNat (wthV vs (levV sz.toNat vs)))).headD 0 else -1

set_option maxRecDepth 100000 in
theorem wth_full {n : Nat} {vs : List Vt} (hS : SmallV n vs) {a : Nat} (ha : a < n) : wthV vs n a = allV vs := by
  unfold wthV allV
  exact sumV_congr fun x hx => by
    obtain ⟨p, hp, hpl, _⟩ := place_at (hS.2 x hx).1 ha
    simp only [wthP, hpl, decide_eq_true_eq]; omega
set_option maxRecDepth 100000 in
theorem allV_pos {n : Int} : ∀ {vs : List Vt}, SmallV n vs → vs ≠ [] → 1 ≤ allV vs
  | [], _, h => absurd rfl h
  | x :: vs, hS, _ => by
    have h1 := (hS.2 x (by simp)).2.1
    have h2 : 0 ≤ allV vs ∧ _ := sumV_bd' hS.tail (p := fun _ => true)
    have h3 : allV (x :: vs) = x.2 + allV vs := by unfold allV; rw [sumV_cons]; simp
    omega
set_option maxRecDepth 100000 in
theorem buk_end {n : Nat} {vs : List Vt} (hS : SmallV n vs) (n1 : 1 ≤ n) (hne : vs ≠ []) : bukN n vs n = false := by
  refine allN_f (k := 0) n1 ?_
  have h1 := wth_full hS (a := 0) n1
  have h2 := allV_pos hS hne
  simp only [bukA, h1, Bool.not_eq_false', decide_eq_true_eq]; omega

set_option maxRecDepth 100000 in
set_option maxHeartbeats 2000000 in
theorem lev_spec (w : World) (n : Nat) (a : Option Addr) (c : Nat) (vs : List Vt) (hR : RdV w a vs) (h0 : profOk n vs = true) :
    Calls Tryz.prog 204 #[.agg #[.int .i64 n, .slice a vs.length c]] w fun e w' => e = .returned (.int .i64 (levV n vs : Int)) ∧ Ext w w' := by
  have q0 := new0 w (.int .i64 n) [.slice a vs.length c] 29
  have q1 := new1 w (.int .i64 n) (.slice a vs.length c) [] 29
  have n2 := (prof_size h0).2
  have HP := hide h0
  have HS := hide (prof_small h0)
  clear h0
  go_enter Tryz.func204, Tryz.ntmps204
  go_wp2_with fail
  have h10 := Ext.new w (.cells #[.int .i64 n, .slice a vs.length c] 29)
  generalize w.alloc (.cells #[.int .i64 n, .slice a vs.length c] 29) = W0 at q0 q1 h10 ⊢
  have hR0 := hR.ext h10
  go_loopw [3, 5, 14, 15, 16] (fun i _ _ _ _ wr => ∃ k : Nat, k ≤ n ∧ i = .int .i64 ((k + 1 : Nat) : Int) ∧ Hid (∀ j, j < k → bukN n vs (j + 1) = true) ∧ Ext W0 wr) (fun i _ _ _ _ _ => n + 1 - (intOf i).toNat)
  case atStart => exact ⟨0, Nat.zero_le _, rfl, fun j hj => absurd hj (by omega), Ext.refl _⟩
  case round =>
    obtain ⟨k, hk, rfl, hall, hwr⟩ := hrel
    have r0 := hwr.keep q0
    have r1 := hwr.keep q1
    obtain ⟨s, hs⟩ : ∃ s : Nat, s = k + 1 := ⟨_, rfl⟩
    rw [← hs]
    have HK := hide hs
    have hs1 : k + 1 ≤ s := by omega
    have hs2 : s ≤ k + 1 := by omega
    clear hs
    by_cases hlt : k < n
    · go_wp2_with fail
      refine (wth_spec _ n a c vs s ((hR0.ext hwr).ext (by repeat (first | exact Ext.refl _ | assumption | refine Ext.alloc ?_ _ | refine Ext.drew ?_ | refine Ext.trans ?_ (by assumption)))) HP.out (by omega)).mono ?_
      rintro e w2 ⟨v, rfl, hv, hw2⟩
      have r0 := hw2.keep r0
      have r1 := hw2.keep r1
      obtain ⟨av, cv, rfl, _, _, hRv, _⟩ := hv.val
      rw [rowL_len]
      have hwr2 := hwr.trans hw2
      clear hv
      have hd : decide (s ≤ n) = true := by simp; omega
      have hd2 : ((s : Int) ≤ (n : Int)) := by omega
      go_wp2_with fail
      obtain ⟨wo, hwo⟩ : ∃ wo : World, wo = w2 := ⟨_, rfl⟩
      subst hwo
      go_loopw [5, 16] (fun _ i wr => ∃ j : Nat, j ≤ n ∧ i = .int .i64 j ∧ Hid (∀ x, x < j → bukA vs s x = false) ∧ Ext wo wr) (fun _ i _ => n - (intOf i).toNat)
      case atStart => exact ⟨0, Nat.zero_le _, rfl, fun j hj => absurd hj (by omega), Ext.refl _⟩
      case round =>
        obtain ⟨i, hi, rfl, hno, hwr3⟩ := hrel
        have r0 := hwr3.keep r0
        have r1 := hwr3.keep r1
        have hRr := hR0.ext (hwr2.trans hwr3)
        by_cases hit : i < n
        · obtain ⟨b2, off2, rfl, e0⟩ := (hRv.ext hwr3).at_ (rowL_at (f := wthV vs s) hit)
          have b1 := wthV_bd HS.out s i
          cases hq : bukA vs s i
          · have t1 : ¬ (allV vs < 2 * wthV vs s i) := by simpa [bukA] using hq
            go_wp2_with (go_at_call 198; refine (allV_spec _ _ _ _ _ (hRr.ext (by repeat (first | exact Ext.refl _ | assumption | refine Ext.alloc ?_ _ | refine Ext.drew ?_ | refine Ext.trans ?_ (by assumption)))) HS.out).mono ?_; rintro e w1 ⟨rfl, hw1⟩)
            exact ⟨⟨i + 1, by omega, by go_num, fun x hx => by
              rcases Nat.lt_succ_iff_lt_or_eq.1 hx with h | rfl
              · exact hno.out x h
              · exact hq, (by repeat (first | exact Ext.refl _ | assumption | refine Ext.alloc ?_ _ | refine Ext.drew ?_ | refine Ext.trans ?_ (by assumption)))⟩, by simp [intOf]; omega⟩
          · have t1 : allV vs < 2 * wthV vs s i := by simpa [bukA] using hq
            go_wp2_with (go_at_call 198; refine (allV_spec _ _ _ _ _ (hRr.ext (by repeat (first | exact Ext.refl _ | assumption | refine Ext.alloc ?_ _ | refine Ext.drew ?_ | refine Ext.trans ?_ (by assumption)))) HS.out).mono ?_; rintro e w1 ⟨rfl, hw1⟩)
            go_ret
            refine ⟨ret_int ?_, h10.trans (hwr2.trans (by repeat (first | exact Ext.refl _ | assumption | refine Ext.alloc ?_ _ | refine Ext.drew ?_ | refine Ext.trans ?_ (by assumption))))⟩
            have h1 : bukN n vs (k + 1) = false := allN_f hit (by rw [← HK.out, hq]; rfl)
            rw [levV_at (by omega) hall.out h1, HK.out]
        · go_wp2
          refine ⟨⟨s, by omega, by go_num, fun x hx => ?_, hwr2.trans hwr3⟩, by simp [intOf]; omega⟩
          rcases Nat.lt_succ_iff_lt_or_eq.1 (show x < k + 1 by omega) with h | h
          · exact hall.out x h
          · rw [h, ← HK.out]
            exact allN_t (fun j hj => by rw [hno.out j (by omega)]; rfl)
    · have hkn : k = n := by omega
      go_wp2
      go_ret
      exact ⟨ret_int (by rw [levV_none (fun i hi => hall.out i (by omega))]; rfl), h10.trans hwr⟩

set_option maxRecDepth 100000 in
theorem max_buk {n : Nat} {vs : List Vt} (n1 : 1 ≤ n) (k : Nat) : (2 * maxL (rowL n (wthV vs k)) ≤ allV vs) ↔ bukN n vs k = true := by
  have hne : rowL n (wthV vs k) ≠ [] := fun e => by have := rowL_len n (wthV vs k); rw [e] at this; simp at this; omega
  constructor
  · intro h
    refine allN_t fun j hj => ?_
    have h1 := maxL_ge (List.mem_of_getElem? (rowL_at (f := wthV vs k) hj))
    simp only [bukA, Bool.not_eq_true', decide_eq_false_iff_not]; omega
  · intro h
    obtain ⟨j, hj⟩ := List.mem_iff_getElem?.1 (maxL_mem hne)
    obtain ⟨hjn, e⟩ := rowL_val hj
    have h1 := allN_iff.1 h j hjn
    simp only [bukA, Bool.not_eq_true', decide_eq_false_iff_not] at h1
    rw [e]; omega

set_option maxRecDepth 100000 in
set_option maxHeartbeats 2000000 in
theorem levO_impl (w : World) (sz : Int) (a : Option Addr) (c : Nat) (vs : List Vt) (hR : RdV w a vs) :
    Calls Tryz.prog 100 #[.agg #[.int .i64 sz, .slice a vs.length c]] w fun e w' => e = .returned (.int .i64 (levO sz vs)) ∧ Ext w w' := by
  have q0 := new0 w (.int .i64 sz) [.slice a vs.length c] 29
  have q1 := new1 w (.int .i64 sz) (.slice a vs.length c) [] 29
  cases h0 : profOk sz vs
  · go_enter Tryz.func100, Tryz.ntmps100
    go_wp2_with (go_at_call 36; refine (prof_impl _ _ _ _ _ (hR.ext (by repeat (first | exact Ext.refl _ | assumption | refine Ext.alloc ?_ _ | refine Ext.drew ?_ | refine Ext.trans ?_ (by assumption))))).mono ?_; rintro e w1 ⟨rfl, hw1⟩; have q0 := Ext.keep (w' := w1) (by repeat (first | exact Ext.refl _ | assumption | refine Ext.alloc ?_ _ | refine Ext.drew ?_ | refine Ext.trans ?_ (by assumption))) q0; have q1 := Ext.keep (w' := w1) (by repeat (first | exact Ext.refl _ | assumption | refine Ext.alloc ?_ _ | refine Ext.drew ?_ | refine Ext.trans ?_ (by assumption))) q1)
    go_ret
    exact ⟨ret_int (by simp [levO, h0]), (by repeat (first | exact Ext.refl _ | assumption | refine Ext.alloc ?_ _ | refine Ext.drew ?_ | refine Ext.trans ?_ (by assumption)))⟩
  obtain ⟨n, rfl, n1, n2⟩ := prof_nat h0
  have HP := hide h0
  have HS := hide (prof_small h0)
  have hl24 := (prof_small h0).1
  by_cases hz : vs = []
  · have hz2 : ((vs.length : Int) == 0) = true := by rw [hz]; rfl
    have HZ := hide hz
    clear hz
    go_enter Tryz.func100, Tryz.ntmps100
    go_wp2_with (go_at_call 36; refine (prof_impl _ _ _ _ _ (hR.ext (by repeat (first | exact Ext.refl _ | assumption | refine Ext.alloc ?_ _ | refine Ext.drew ?_ | refine Ext.trans ?_ (by assumption))))).mono ?_; rintro e w1 ⟨rfl, hw1⟩; have q0 := Ext.keep (w' := w1) (by repeat (first | exact Ext.refl _ | assumption | refine Ext.alloc ?_ _ | refine Ext.drew ?_ | refine Ext.trans ?_ (by assumption))) q0; have q1 := Ext.keep (w' := w1) (by repeat (first | exact Ext.refl _ | assumption | refine Ext.alloc ?_ _ | refine Ext.drew ?_ | refine Ext.trans ?_ (by assumption))) q1)
    go_ret
    refine ⟨ret_int ?_, (by repeat (first | exact Ext.refl _ | assumption | refine Ext.alloc ?_ _ | refine Ext.drew ?_ | refine Ext.trans ?_ (by assumption)))⟩
    simp only [levO, h0, if_true, Int.toNat_natCast]
    rw [levV_none (fun i hi => allN_t fun j hj => by rw [HZ.out]; simp [bukA, allV, wthV, sumV])]
    rfl
  · have hpos : 1 ≤ vs.length := by
      cases vs with
      | nil => exact absurd rfl hz
      | cons => simp
    have hz2 : ((vs.length : Int) == 0) = false := by simp; exact hz
    have HE := hide (buk_end HS.out n1 hz)
    clear hz
    go_enter Tryz.func100, Tryz.ntmps100
    go_wp2_with (go_at_call 36; refine (prof_impl _ _ _ _ _ (hR.ext (by repeat (first | exact Ext.refl _ | assumption | refine Ext.alloc ?_ _ | refine Ext.drew ?_ | refine Ext.trans ?_ (by assumption))))).mono ?_; rintro e w1 ⟨rfl, hw1⟩; have q0 := Ext.keep (w' := w1) (by repeat (first | exact Ext.refl _ | assumption | refine Ext.alloc ?_ _ | refine Ext.drew ?_ | refine Ext.trans ?_ (by assumption))) q0; have q1 := Ext.keep (w' := w1) (by repeat (first | exact Ext.refl _ | assumption | refine Ext.alloc ?_ _ | refine Ext.drew ?_ | refine Ext.trans ?_ (by assumption))) q1)
    have hw : Ext w w1 := (by repeat (first | exact Ext.refl _ | assumption | refine Ext.alloc ?_ _ | refine Ext.drew ?_ | refine Ext.trans ?_ (by assumption)))
    have hR0 := hR.ext hw
    obtain ⟨wb, hwb⟩ : ∃ wb : World, wb = w1 := ⟨_, rfl⟩
    subst hwb
    have b2 : 0 ≤ allV vs ∧ allV vs ≤ 24000 := sumV_bd' HS.out
    go_loopw [3] (fun i wr => ∃ k : Nat, k + 1 ≤ n ∧ i = .int .i64 ((k + 1 : Nat) : Int) ∧ Hid (∀ j, j < k → bukN n vs (j + 1) = true) ∧ Ext wb wr) (fun i _ => n + 1 - (intOf i).toNat)
    case atStart => exact ⟨0, n1, rfl, fun j hj => absurd hj (by omega), Ext.refl _⟩
    case round =>
      obtain ⟨k, hk, rfl, hall, hwr⟩ := hrel
      have r0 := hwr.keep q0
      have r1 := hwr.keep q1
      have hRr := hR0.ext hwr
      obtain ⟨s, hs⟩ : ∃ s : Nat, s = k + 1 := ⟨_, rfl⟩
      rw [← hs]
      have HK := hide hs
      have hs1 : k + 1 ≤ s := by omega
      have hs2 : s ≤ k + 1 := by omega
      clear hs
      obtain ⟨M, hM⟩ : ∃ M : Int, M = maxL (rowL n (wthV vs s)) := ⟨_, rfl⟩
      have hne : rowL n (wthV vs s) ≠ [] := fun e => by have := rowL_len n (wthV vs s); rw [e] at this; simp at this; omega
      obtain ⟨j, hj⟩ := List.mem_iff_getElem?.1 (maxL_mem hne)
      obtain ⟨hjn, hjv⟩ := rowL_val hj
      have b1 := wthV_bd HS.out s j
      rw [← hjv, ← hM] at b1
      have hmb := max_buk (vs := vs) n1 s
      rw [← hM] at hmb
      have HMB := hide hmb
      have HM := hide hM
      clear hM hne hj hjv hjn hmb
      have y1 : wrap64 (2 * M) = 2 * M := IntWalk.wrap64_in _ (by omega)
      have y2 : IntKind.i64.wrap (2 * M) = 2 * M := IntWalk.i64_in _ (by omega)
      have HC : Hid (∀ w', Ext wb w' → Calls Tryz.prog 90 #[.agg #[.int .i64 n, .slice a vs.length c]] w' fun e w'' => e = .returned (.int .i64 (allV vs)) ∧ Ext w' w'') := fun w' hw' =>
        (count_impl w' n a c vs (hR0.ext hw')).mono fun _ _ ⟨h1, h2⟩ => ⟨by rw [h1, if_pos h0], h2⟩
      go_wp2
      refine wp_region_O [0, 1, 5, 2, 3, 4, 6, 7] (by kernel_rfl) rfl (by kernel_rfl) ?_
      repeat' (refine wpO_stepQ rfl (fun K hK => ?_)
               go_simp
               try (rw [if_neg (by intro h; simp [undef] at h)])
               try split
               all_goals
                 first
                 | (refine hK _ ?_
                    clear hK K)
                 | (apply Exists.intro
                    refine ⟨fun wq hwq => ?_, hK _ ?_⟩
                    · have hcq := hwq.cellS
                      go_simp
                      first
                      | exact ⟨Ext.refl _, rfl⟩
                      | exact ⟨Ext.refl _, HC.out _ (by repeat (first | exact Ext.refl _ | assumption | refine Ext.alloc ?_ _ | refine Ext.drew ?_ | refine Ext.trans ?_ (by assumption)))⟩
                    clear hK K))
      refine wpO_stepS rfl (by kernel_rfl) (fun K hK wq hwq => ?_)
      go_simp
      refine (wth_impl _ n a c vs s (hRr.ext (by repeat (first | exact Ext.refl _ | assumption | refine Ext.alloc ?_ _ | refine Ext.drew ?_ | refine Ext.trans ?_ (by assumption)))) HS.out n2).mono ?_
      rintro e w3 ⟨v, rfl, hv, hw3⟩
      refine ⟨hw3, hK _ _ ?_⟩
      clear hK K
      obtain ⟨av, cv, rfl, _, hRv, _⟩ := hv.fr
      have HX : Hid (∀ w', Ext w3 w' → Calls Tryz.prog 86 #[.slice av n cv] w' fun e w'' => e = .returned (.int .i64 M) ∧ Ext w' w'') := fun w' hw' => by
        have h := max_impl w' av cv _ (hRv.ext hw') (by rw [rowL_len]; omega) (by rw [rowL_len]; omega)
        rw [rowL_len, ← HM.out] at h
        exact h
      rw [rowL_len]
      repeat' (refine wpO_stepQ rfl (fun K hK => ?_)
               go_simp
               try (rw [if_neg (by intro h; simp [undef] at h)])
               try split
               all_goals
                 first
                 | (refine hK _ ?_
                    clear hK K)
                 | (apply Exists.intro
                    refine ⟨fun wq hwq => ?_, hK _ ?_⟩
                    · have hcq := hwq.cellS
                      go_simp
                      first
                      | exact ⟨Ext.refl _, rfl⟩
                      | exact ⟨Ext.refl _, HX.out _ (by repeat (first | exact Ext.refl _ | assumption | refine Ext.alloc ?_ _ | refine Ext.drew ?_ | refine Ext.trans ?_ (by assumption)))⟩
                      | exact ⟨Ext.refl _, HC.out _ (by repeat (first | exact Ext.refl _ | assumption | refine Ext.alloc ?_ _ | refine Ext.drew ?_ | refine Ext.trans ?_ (by assumption)))⟩
                    clear hK K))
      refine wpO_nil (fun wz hwz => ?_)
      by_cases ht : 2 * M ≤ allV vs
      · go_wp2
        have hkn : k + 1 ≠ n := fun e => by
          have h1 := HMB.out.1 ht
          rw [HK.out, e, HE.out] at h1
          cases h1
        exact ⟨⟨s, by omega, by go_num, fun x hx => by
          rcases Nat.lt_succ_iff_lt_or_eq.1 (show x < k + 1 by omega) with h | h
          · exact hall.out x h
          · rw [h, ← HK.out]; exact HMB.out.1 ht, (by repeat (first | exact Ext.refl _ | assumption | refine Ext.alloc ?_ _ | refine Ext.drew ?_ | refine Ext.trans ?_ (by assumption)))⟩, by simp [intOf]; omega⟩
      · go_wp2
        go_ret
        refine ⟨ret_int ?_, (by repeat (first | exact Ext.refl _ | assumption | refine Ext.alloc ?_ _ | refine Ext.drew ?_ | refine Ext.trans ?_ (by assumption)))⟩
        have h1 : bukN n vs (k + 1) = false := by
          cases hb : bukN n vs (k + 1)
          · rfl
          · exact absurd (HMB.out.2 (by rw [HK.out]; exact hb)) (by omega)
        simp only [levO, h0, if_true, Int.toNat_natCast]
        rw [levV_at (by omega) hall.out h1, HK.out]

end Go.Proofs.YtilcdnkkabmbfaaGreat
