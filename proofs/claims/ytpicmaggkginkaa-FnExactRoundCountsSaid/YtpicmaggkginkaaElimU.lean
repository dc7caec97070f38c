/- The orders of elimination, on both sides. -/
import Derived.Test.YtpicmaggkginkaaElimT
namespace Go.Proofs.Ytpicmaggkginkaa
open Go.RowKit

set_option maxRecDepth 100000 in
theorem OwnI.formR' {w : World} {B : Nat} {u : Value} {xs : List Int} (h : OwnI w B u xs) : ∃ a n c, u = .slice a n c ∧ n = xs.length ∧ RdI w a xs := by
  obtain ⟨a, c, rfl, _, _, hR, _⟩ := h.val
  exact ⟨_, _, _, rfl, rfl, hR⟩
set_option maxRecDepth 100000 in
theorem pick_nat {n : Nat} {f : Int → Int} {q : Nat → Bool} {i : Nat} (hi : i ≤ n) (hne : upL i q ≠ []) : ∃ p : Nat, p < n ∧ pickV f (upL i q) = p := by
  have h := pickV_mem (f := f) hne
  obtain ⟨p, hp, _, e⟩ := upL_mem.1 h
  exact ⟨p, by omega, e⟩

set_option maxRecDepth 100000 in
set_option maxHeartbeats 8000000 in
theorem order_spec (w : World) (sz : Int) (a : Option Addr) (c : Nat) (vs : List Vt) (kind : Nat) (hk2 : kind ≤ 2) (hR : RdV w a vs) :
    Calls Try.prog 83 #[.agg #[.int .i64 sz, .slice a vs.length c], .int .i64 (kind : Int)] w fun e w' => ∃ v, e = .returned v ∧ OwnI w' w.heap.size v (elimO sz vs (worK vs kind)) ∧ Ext w w' := by
  have q0 := new0 w (.int .i64 sz) [.slice a vs.length c] 30
  have q1 := new1 w (.int .i64 sz) (.slice a vs.length c) [] 30
  cases h0 : profOk sz vs
  · go_enter Try.func83, Try.ntmps83
    go_wp2_with (go_at_call 51; refine (prof_spec _ _ _ _ _ (hR.ext (by repeat (first | exact Ext.refl _ | assumption | refine Ext.alloc ?_ _ | refine Ext.drew ?_ | refine Ext.trans ?_ (by assumption))))).mono ?_; rintro e w1 ⟨rfl, hw1⟩; have q0 := Ext.keep (w' := w1) (by repeat (first | exact Ext.refl _ | assumption | refine Ext.alloc ?_ _ | refine Ext.drew ?_ | refine Ext.trans ?_ (by assumption))) q0; have q1 := Ext.keep (w' := w1) (by repeat (first | exact Ext.refl _ | assumption | refine Ext.alloc ?_ _ | refine Ext.drew ?_ | refine Ext.trans ?_ (by assumption))) q1)
    go_ret
    exact ⟨_, rfl, by simp [elimO, h0]; exact OwnI.nil _ _, (by repeat (first | exact Ext.refl _ | assumption | refine Ext.alloc ?_ _ | refine Ext.drew ?_ | refine Ext.trans ?_ (by assumption)))⟩
  obtain ⟨n, rfl, n1, n2⟩ := prof_nat h0
  have HS := hide (prof_small h0)
  obtain ⟨W, hW⟩ : ∃ W, W = worK vs kind := ⟨_, rfl⟩
  rw [← hW]
  have HW := hide hW
  clear hW
  go_enter Try.func83, Try.ntmps83
  go_wp2_with (go_at_call 51; refine (prof_spec _ _ _ _ _ (hR.ext (by repeat (first | exact Ext.refl _ | assumption | refine Ext.alloc ?_ _ | refine Ext.drew ?_ | refine Ext.trans ?_ (by assumption))))).mono ?_; rintro e w1 ⟨rfl, hw1⟩; have q0 := Ext.keep (w' := w1) (by repeat (first | exact Ext.refl _ | assumption | refine Ext.alloc ?_ _ | refine Ext.drew ?_ | refine Ext.trans ?_ (by assumption))) q0; have q1 := Ext.keep (w' := w1) (by repeat (first | exact Ext.refl _ | assumption | refine Ext.alloc ?_ _ | refine Ext.drew ?_ | refine Ext.trans ?_ (by assumption))) q1)
  have hw : Ext w w1 := (by repeat (first | exact Ext.refl _ | assumption | refine Ext.alloc ?_ _ | refine Ext.drew ?_ | refine Ext.trans ?_ (by assumption)))
  have hR0 := hR.ext hw
  have hO := OwnI.made0 w1
  have h20 := Ext.new w1 (.cells #[] 3)
  obtain ⟨wb, hwb⟩ : ∃ wb : World, wb = w1 := ⟨_, rfl⟩
  subst hwb
  generalize wb.alloc (.cells #[] 3) = W0 at hO h20 ⊢
  go_loopw [5, 6, 7] (fun v _ _ wr => ∃ k : Nat, k ≤ n ∧ OwnI wr wb.heap.size v (elimL n W k) ∧ Ext wb wr) (fun v _ _ _ => match v with | .slice _ L _ => n - L | _ => 0)
  case atStart => exact ⟨0, Nat.zero_le _, hO, h20⟩
  case round =>
    clear hO h20
    obtain ⟨k, hk, hown, hwr⟩ := hrel
    have hel := elimL_len n W k
    obtain ⟨a5, L5, c5, rfl, hL, hR5⟩ := hown.formR'
    rw [hel] at hL
    subst hL
    have r0 := hwr.keep q0
    by_cases hlt : L5 < n
    · obtain ⟨out, hout⟩ : ∃ out, out = elimL n W L5 := ⟨_, rfl⟩
      rw [← hout] at hR5 hel hown
      have HOUT := hide hout
      have HEL := hide hel
      have hOut : Hid (∀ (x : Int) (w' : World), Ext wr w' → Calls Try.prog 76 #[.slice a5 L5 c5, .int .i64 x] w' fun e w'' => e = .returned (.bool (hasI out x)) ∧ Ext w' w'') := fun x w' hw' => by
        have h := out_spec w' a5 c5 out x (hR5.ext hw') (by omega)
        rw [hel] at h
        exact h
      have hBad : Hid (∀ (x : Nat) (w' : World), x < n → Ext wr w' → Calls Try.prog 132 #[.agg #[.int .i64 n, .slice a vs.length c], .slice a5 L5 c5, .int .i64 (x : Int), .int .i64 (kind : Int)] w' fun e w'' => e = .returned (.int .i64 (W (leftL n out) x)) ∧ Ext w' w'') := fun x w' hx hw' => by
        have h := bad_spec w' n a a5 c c5 vs out x kind hk2 ((hR0.ext hwr).ext hw') HS.out n2 hx (hR5.ext hw') (by omega)
        rw [hel, ← HW.out] at h
        exact h
      clear hout hel
      have hd : decide (L5 < n) = true := by simpa using hlt
      go_wp2
      obtain ⟨wo, hwo⟩ : ∃ wo : World, wo = wr := ⟨_, rfl⟩
      subst hwo
      go_loopw [6, 7] (fun g i wr => ∃ j : Nat, j ≤ n ∧ i = .int .i64 j ∧ g = .int .i64 (pickV (W (leftL n out)) (upL j (notIn out))) ∧ Ext wo wr) (fun _ i _ => n - (intOf i).toNat)
      case atStart => exact ⟨0, Nat.zero_le _, rfl, rfl, Ext.refl _⟩
      case round =>
        clear r0
        obtain ⟨j, hj, rfl, rfl, hwr'⟩ := hrel
        have r0 := (hwr.trans hwr').keep q0
        have r1 := (hwr.trans hwr').keep q1
        by_cases hjt : j < n
        · cases ho : hasI out (j : Int)
          case true =>
            have hnx : upL (j + 1) (notIn out) = upL j (notIn out) := by rw [upL_succ]; simp [notIn, ho]
            have HN := hide hnx
            clear hnx
            go_wp2
            refine wp_region_X (by kernel_rfl) (by kernel_rfl) ?_
            repeat' (refine wpX_stepQ (fun K hK => ?_)
                     go_simp
                     try (rw [if_neg (by intro h; simp [undef] at h)])
                     try split
                     all_goals
                       first
                       | (refine hK _ ?_
                          clear hK K)
                       | (apply Exists.intro
                          refine ⟨fun wq hwq => ?_, hK _ ?_⟩
                          · have hcq := hwq.cellS
                            go_simp
                            first
                            | exact ⟨Ext.refl _, rfl⟩
                            | exact ⟨Ext.refl _, hOut.out _ _ (by repeat (first | exact Ext.refl _ | assumption | refine Ext.alloc ?_ _ | refine Ext.drew ?_ | refine Ext.trans ?_ (by assumption)))⟩
                          clear hK K))
            refine wpX_nil (fun wz hwz => ?_)
            go_wp2
            exact ⟨⟨j + 1, by omega, by go_num, by rw [HN.out], (by repeat (first | exact Ext.refl _ | assumption | refine Ext.alloc ?_ _ | refine Ext.drew ?_ | refine Ext.trans ?_ (by assumption)))⟩, by simp [intOf]; omega⟩
          have hnx : upL (j + 1) (notIn out) = upL j (notIn out) ++ [(j : Int)] := by rw [upL_succ]; simp [notIn, ho]
          have hpk : pickV (W (leftL n out)) (upL (j + 1) (notIn out)) = if pickV (W (leftL n out)) (upL j (notIn out)) < 0 ∨ W (leftL n out) j ≤ W (leftL n out) (pickV (W (leftL n out)) (upL j (notIn out))) then (j : Int) else pickV (W (leftL n out)) (upL j (notIn out)) := by rw [hnx, pickV_snoc]
          have HN := hide hpk
          clear hpk hnx
          by_cases hne : upL j (notIn out) = []
          · have hp1 : pickV (W (leftL n out)) (upL j (notIn out)) = -1 := by rw [hne]; rfl
            rw [hp1] at HN ⊢
            clear hp1 hne
            go_wp2
            refine wp_region_X (by kernel_rfl) (by kernel_rfl) ?_
            repeat' (refine wpX_stepQ (fun K hK => ?_)
                     go_simp
                     try (rw [if_neg (by intro h; simp [undef] at h)])
                     try split
                     all_goals
                       first
                       | (refine hK _ ?_
                          clear hK K)
                       | (apply Exists.intro
                          refine ⟨fun wq hwq => ?_, hK _ ?_⟩
                          · have hcq := hwq.cellS
                            go_simp
                            first
                            | exact ⟨Ext.refl _, rfl⟩
                            | exact ⟨Ext.refl _, hOut.out _ _ (by repeat (first | exact Ext.refl _ | assumption | refine Ext.alloc ?_ _ | refine Ext.drew ?_ | refine Ext.trans ?_ (by assumption)))⟩
                          clear hK K))
            refine wpX_nil (fun wz hwz => ?_)
            go_wp2
            exact ⟨⟨j + 1, by omega, by go_num, by rw [HN.out, if_pos (.inl (by decide))], (by repeat (first | exact Ext.refl _ | assumption | refine Ext.alloc ?_ _ | refine Ext.drew ?_ | refine Ext.trans ?_ (by assumption)))⟩, by simp [intOf]; omega⟩
          · obtain ⟨p, hp, hpe⟩ := pick_nat (f := W (leftL n out)) (q := notIn out) (n := n) (i := j) hj hne
            rw [hpe] at HN ⊢
            clear hpe hne
            have hp0 : ¬ ((p : Int) < 0) := by omega
            by_cases ht : W (leftL n out) j ≤ W (leftL n out) p
            · go_wp2
              refine wp_region_X (by kernel_rfl) (by kernel_rfl) ?_
              repeat' (refine wpX_stepQ (fun K hK => ?_)
                       go_simp
                       try (rw [if_neg (by intro h; simp [undef] at h)])
                       try split
                       all_goals
                         first
                         | (refine hK _ ?_
                            clear hK K)
                         | (apply Exists.intro
                            refine ⟨fun wq hwq => ?_, hK _ ?_⟩
                            · have hcq := hwq.cellS
                              go_simp
                              first
                              | exact ⟨Ext.refl _, rfl⟩
                              | exact ⟨Ext.refl _, hOut.out _ _ (by repeat (first | exact Ext.refl _ | assumption | refine Ext.alloc ?_ _ | refine Ext.drew ?_ | refine Ext.trans ?_ (by assumption)))⟩
                              | exact ⟨Ext.refl _, hBad.out _ _ (by assumption) (by repeat (first | exact Ext.refl _ | assumption | refine Ext.alloc ?_ _ | refine Ext.drew ?_ | refine Ext.trans ?_ (by assumption)))⟩
                            clear hK K))
              refine wpX_nil (fun wz hwz => ?_)
              go_wp2
              exact ⟨⟨j + 1, by omega, by go_num, by rw [HN.out, if_pos (.inr ht)], (by repeat (first | exact Ext.refl _ | assumption | refine Ext.alloc ?_ _ | refine Ext.drew ?_ | refine Ext.trans ?_ (by assumption)))⟩, by simp [intOf]; omega⟩
            · go_wp2
              refine wp_region_X (by kernel_rfl) (by kernel_rfl) ?_
              repeat' (refine wpX_stepQ (fun K hK => ?_)
                       go_simp
                       try (rw [if_neg (by intro h; simp [undef] at h)])
                       try split
                       all_goals
                         first
                         | (refine hK _ ?_
                            clear hK K)
                         | (apply Exists.intro
                            refine ⟨fun wq hwq => ?_, hK _ ?_⟩
                            · have hcq := hwq.cellS
                              go_simp
                              first
                              | exact ⟨Ext.refl _, rfl⟩
                              | exact ⟨Ext.refl _, hOut.out _ _ (by repeat (first | exact Ext.refl _ | assumption | refine Ext.alloc ?_ _ | refine Ext.drew ?_ | refine Ext.trans ?_ (by assumption)))⟩
                              | exact ⟨Ext.refl _, hBad.out _ _ (by assumption) (by repeat (first | exact Ext.refl _ | assumption | refine Ext.alloc ?_ _ | refine Ext.drew ?_ | refine Ext.trans ?_ (by assumption)))⟩
                            clear hK K))
              refine wpX_nil (fun wz hwz => ?_)
              go_wp2
              exact ⟨⟨j + 1, by omega, by go_num, by rw [HN.out, if_neg (fun h => by rcases h with h | h <;> omega)], (by repeat (first | exact Ext.refl _ | assumption | refine Ext.alloc ?_ _ | refine Ext.drew ?_ | refine Ext.trans ?_ (by assumption)))⟩, by simp [intOf]; omega⟩
        · have hjn : j = n := by omega
          have HT : pickV (W (leftL n out)) (upL j (notIn out)) = pickV (W (leftL n out)) (leftL n out) := by rw [hjn]; rfl
          rw [HT]
          clear HT
          have hown := hown.ext hwr'
          go_wp2_with (at_builtin; refine wpList_appI wb _ rfl _ _ rfl _ (out) _ rfl (hown.ext (by repeat (first | exact Ext.refl _ | assumption | refine Ext.alloc ?_ _ | refine Ext.drew ?_ | refine Ext.trans ?_ (by assumption)))) (by repeat (first | exact Ext.refl _ | assumption | refine Ext.alloc ?_ _ | refine Ext.drew ?_ | refine Ext.trans ?_ (by assumption))) rfl (by rw [HEL.out]; omega) ?_; intro v' w3 hown3 hw3)
          refine ⟨⟨L5 + 1, by omega, ?_, hw3⟩, ?_⟩
          · show OwnI _ _ _ (elimL n W L5 ++ [pickV (W (leftL n (elimL n W L5))) (leftL n (elimL n W L5))])
            rw [← HOUT.out]; exact hown3
          · obtain ⟨a6, L6, c6, e6, hL6, _⟩ := hown3.formR'
            subst e6
            rw [List.length_append, HEL.out] at hL6
            show n - L6 < n - L5
            simp at hL6
            omega
    · have hkn : L5 = n := by omega
      go_wp2
      go_ret
      refine ⟨_, rfl, ?_, hw.trans hwr⟩
      have he : elimO n vs W = elimL n W L5 := by simp [elimO, h0, hkn]
      rw [he]
      exact hown.base hw.size

end Go.Proofs.Ytpicmaggkginkaa
