/- The order that the kept pairs give, of the spec. Winners by a rule, of the spec. -/
import Derived.Test.YtilcdnkkabmbfaaGreatCk8
import Derived.Test.YtilcdnkkabmbfaaGreatCk14
import Derived.Test.YtilcdnkkabmbfaaGreatCk24
import Derived.Test.YtilcdnkkabmbfaaGreatCk22
import Derived.Test.YtilcdnkkabmbfaaGreatCk23
namespace Go.Proofs.YtilcdnkkabmbfaaGreat
open Go.RowKit

set_option maxRecDepth 100000 in
theorem hasI_left {n : Nat} {out : List Int} {i : Nat} (hi : i < n) : hasI (leftL n out) (i : Int) = !hasI out (i : Int) := by
  cases h : hasI out (i : Int)
  · rw [Bool.not_false]
    exact hasI_iff.2 (leftL_mem.2 ⟨i, hi, (fun hm => by rw [hasI_iff.2 hm] at h; cases h), rfl⟩)
  · rw [Bool.not_true]
    cases h2 : hasI (leftL n out) (i : Int)
    · rfl
    · obtain ⟨k, _, hno, hk⟩ := leftL_mem.1 (hasI_iff.1 h2)
      rw [← hk] at hno
      exact absurd (hasI_iff.1 h) hno
set_option maxRecDepth 100000 in
theorem free_eq {n : Nat} {kept : List (List Int)} {out : List Int} (hk : ∀ x ∈ kept, PairN n x) (j : Int) : freeB kept (leftL n out) j = kept.all (fun x => !(p1 x == j) || hasI out (p0 x)) := by
  unfold freeB
  rw [List.not_any_eq_all_not]
  have key : ∀ x ∈ kept, (!(p1 x == j && hasI (leftL n out) (p0 x))) = (!(p1 x == j) || hasI out (p0 x)) := fun x hx => by
    obtain ⟨a, b, ha, hb, rfl⟩ := hk x hx
    show (!((b : Int) == j && hasI (leftL n out) (a : Int))) = (!((b : Int) == j) || hasI out (a : Int))
    rw [hasI_left ha, Bool.not_and, Bool.not_not]
  rw [Bool.eq_iff_iff, List.all_eq_true, List.all_eq_true]
  exact ⟨fun h x hx => by rw [← key x hx]; exact h x hx, fun h x hx => by rw [key x hx]; exact h x hx⟩
set_option maxRecDepth 100000 in
theorem prk_len_at {kept : List (List Int)} {n k : Nat} : (prL kept n k).length = k := prL_len kept n k

set_option maxRecDepth 100000 in
set_option maxHeartbeats 8000000 in
theorem prk_spec (w : World) (sz : Int) (a : Option Addr) (c : Nat) (vs : List Vt) (hR : RdV w a vs) :
    Calls Tryz.prog 187 #[.agg #[.int .i64 sz, .slice a vs.length c]] w fun e w' => ∃ v, e = .returned v ∧ OwnI w' w.heap.size v (prkO sz vs) ∧ Ext w w' := by
  have q0 := new0 w (.int .i64 sz) [.slice a vs.length c] 29
  have q1 := new1 w (.int .i64 sz) (.slice a vs.length c) [] 29
  cases h0 : profOk sz vs
  · go_enter Tryz.func187, Tryz.ntmps187
    go_wp2_with (go_at_call 127; refine (prof_spec _ _ _ _ _ (hR.ext (by repeat (first | exact Ext.refl _ | assumption | refine Ext.alloc ?_ _ | refine Ext.drew ?_ | refine Ext.trans ?_ (by assumption))))).mono ?_; rintro e w1 ⟨rfl, hw1⟩; have q0 := Ext.keep (w' := w1) (by repeat (first | exact Ext.refl _ | assumption | refine Ext.alloc ?_ _ | refine Ext.drew ?_ | refine Ext.trans ?_ (by assumption))) q0; have q1 := Ext.keep (w' := w1) (by repeat (first | exact Ext.refl _ | assumption | refine Ext.alloc ?_ _ | refine Ext.drew ?_ | refine Ext.trans ?_ (by assumption))) q1)
    go_ret
    exact ⟨_, rfl, by simp [prkO, h0]; exact OwnI.nil _ _, (by repeat (first | exact Ext.refl _ | assumption | refine Ext.alloc ?_ _ | refine Ext.drew ?_ | refine Ext.trans ?_ (by assumption)))⟩
  obtain ⟨n, rfl, n1, n2⟩ := prof_nat h0
  have HP0 : Hid (prkO n vs = prL (lokO n vs) n n) := hide (by simp [prkO, h0])
  have HLK : Hid (lokO n vs = lockL (srtP n vs)) := hide (by simp [lokO, h0])
  have HRK : Hid (Ranked (lokO n vs)) := hide (by rw [HLK.out, lockL_all]; exact lockL_ranked _ _ (Nat.le_refl _))
  have HPN : Hid (∀ x ∈ lokO n vs, PairN n x) := fun x hx => by rw [HLK.out] at hx; exact (srtP_mem (lok_sub _ x hx)).1
  have HKL := hide (lokO_bd n vs).1
  go_enter Tryz.func187, Tryz.ntmps187
  go_wp2_with (go_at_call 127; refine (prof_spec _ _ _ _ _ (hR.ext (by repeat (first | exact Ext.refl _ | assumption | refine Ext.alloc ?_ _ | refine Ext.drew ?_ | refine Ext.trans ?_ (by assumption))))).mono ?_; rintro e w1 ⟨rfl, hw1⟩; have q0 := Ext.keep (w' := w1) (by repeat (first | exact Ext.refl _ | assumption | refine Ext.alloc ?_ _ | refine Ext.drew ?_ | refine Ext.trans ?_ (by assumption))) q0; have q1 := Ext.keep (w' := w1) (by repeat (first | exact Ext.refl _ | assumption | refine Ext.alloc ?_ _ | refine Ext.drew ?_ | refine Ext.trans ?_ (by assumption))) q1)
  refine (lok_spec _ _ _ _ _ (hR.ext (by repeat (first | exact Ext.refl _ | assumption | refine Ext.alloc ?_ _ | refine Ext.drew ?_ | refine Ext.trans ?_ (by assumption))))).mono ?_
  rintro e w2 ⟨v, rfl, hv, hw2⟩
  have hw : Ext w w2 := (by repeat (first | exact Ext.refl _ | assumption | refine Ext.alloc ?_ _ | refine Ext.drew ?_ | refine Ext.trans ?_ (by assumption)))
  have q0 := hw2.keep q0
  have hV := hv.wr.rd
  obtain ⟨av, cv, rfl, hju⟩ := hV
  have hV : RdSS w2 w2.heap.size (.slice av (lokO n vs).length cv) (lokO n vs) := ⟨av, cv, rfl, hju⟩
  clear hju hv hw1 hw2 q1 h0 HLK
  generalize lokO n vs = kept at hV HP0 HRK HPN HKL ⊢
  obtain ⟨wb, hwb⟩ : ∃ wb : World, wb = w2 := ⟨_, rfl⟩
  subst hwb
  have hO := OwnI.made0 wb
  have hE := Ext.new wb (.cells #[] 3)
  go_wp2_with fail
  generalize wb.alloc (.cells #[] 3) = W0 at hO hE ⊢
  go_loopw [4, 5, 6, 8, 30, 31, 32] (fun v _ _ _ _ _ _ wr => ∃ k : Nat, k ≤ n ∧ OwnI wr wb.heap.size v (prL kept n k) ∧ Ext wb wr) (fun v _ _ _ _ _ _ _ => match v with | .slice _ L _ => n - L | _ => 0)
  case atStart => exact ⟨0, Nat.zero_le _, hO, hE⟩
  case round =>
    clear hO hE
    obtain ⟨k, hk, hown, hwr⟩ := hrel
    have hel := prL_len kept n k
    have r0 := hwr.keep q0
    obtain ⟨a5, L5, c5, rfl, hL, hR5⟩ := hown.formR'
    rw [hel] at hL
    subst hL
    by_cases hlt : L5 < n
    · obtain ⟨out, hout⟩ : ∃ out, out = prL kept n L5 := ⟨_, rfl⟩
      have HSM := hide (next_some (kept := kept) (n := n) (out := out) HRK.out (fun e => by
        have := leftL_prL (n := n) HRK.out L5 (by omega)
        rw [← hout, e] at this
        simp at this; omega))
      have HNX : Hid (prL kept n (L5 + 1) = out ++ [nextV kept n out]) := hide (by rw [prL, ← hout])
      rw [← hout] at hown hR5 hel
      have hOut : Hid (∀ (x : Int) (w' : World), Ext wr w' → Calls Tryz.prog 207 #[.slice a5 L5 c5, .int .i64 x] w' fun e w'' => e = .returned (.bool (hasI out x)) ∧ Ext w' w'') := fun x w' hw' => by
        have h := out_spec w' a5 c5 out x (hR5.ext hw') (by omega)
        rw [hel] at h
        exact h
      have HFR : Hid (∀ j : Nat, nextQ kept n out j = (notIn out j && kept.all (fun x => !(p1 x == (j : Int)) || hasI out (p0 x)))) := fun j => by unfold nextQ; rw [free_eq HPN.out]
      have HO := hide hown
      have HEL := hide hel
      have hd : decide (L5 < n) = true := by simpa using hlt
      clear hown hR5 hel hout
      go_wp2
      obtain ⟨wo, hwo⟩ : ∃ wo : World, wo = wr := ⟨_, rfl⟩
      subst hwo
      go_loopw [4, 5, 6, 8, 30, 31, 32] (fun v i _ _ _ _ _ wr => ∃ j : Nat, j ≤ n ∧ v = .slice a5 L5 c5 ∧ i = .int .i64 j ∧ Hid (∀ i : Nat, i < j → nextQ kept n out i = false) ∧ Ext wo wr) (fun _ i _ _ _ _ _ _ => n - (intOf i).toNat)
      case atStart => exact ⟨0, Nat.zero_le _, rfl, rfl, (fun i h => by omega), Ext.refl _⟩
      case round =>
        obtain ⟨j, hj, rfl, rfl, hno, hwr'⟩ := hrel
        have r0 := hwr'.keep r0
        by_cases hjt : j < n
        · have HC := hide (hOut.out (j : Int) wr hwr')
          have HB0 : Hid ((!hasI out (j : Int)) = (notIn out j && (kept.take 0).all (fun x => !(p1 x == (j : Int)) || hasI out (p0 x)))) := hide (by simp [notIn])
          go_wp2_with fail
          refine HC.out.mono ?_
          rintro e w3 ⟨rfl, hw3⟩
          have hw3' := hwr'.trans hw3
          have r0 := hw3.keep r0
          clear HC hw3
          go_wp2
          go_loopw [6, 8, 32] (fun f _ q wr => ∃ m : Nat, m ≤ kept.length ∧ q = .int .i64 m ∧ f = .bool (notIn out j && (kept.take m).all (fun x => !(p1 x == (j : Int)) || hasI out (p0 x))) ∧ Ext wo wr) (fun _ _ q _ => kept.length - (intOf q).toNat)
          case atStart => exact ⟨0, Nat.zero_le _, rfl, congrArg Value.bool HB0.out, hw3'⟩
          case round =>
            clear hw3' r0 HB0
            obtain ⟨m, hm, rfl, rfl, hwr2⟩ := hrel
            have r0 := hwr2.keep (hwr.keep q0)
            have hkl := HKL.out
            by_cases hmt : m < kept.length
            · obtain ⟨x, hx⟩ := at_of_lt hmt
              obtain ⟨bv, offv, a', c', rfl, d0, hRx⟩ := (hV.ext (hwr.trans hwr2)).at_ hx
              obtain ⟨p, q, hp, hq, hxe⟩ := HPN.out x (List.mem_of_getElem? hx)
              subst hxe
              obtain ⟨b2, o2, rfl, e0, e1⟩ := hRx.two
              have hpl : ([(p : Int), (q : Int)] : List Int).length = 2 := rfl
              rw [hpl] at d0
              have HAT := hide (take_at hx)
              have HC := hide (hOut.out (p : Int) wr hwr2)
              clear hx hRx hpl
              cases hf : (notIn out j && (kept.take m).all (fun x => !(p1 x == (j : Int)) || hasI out (p0 x)))
              · go_wp2
                exact ⟨⟨m + 1, by omega, by go_num, congrArg Value.bool (by rw [HAT.out, List.all_append, ← Bool.and_assoc, hf, Bool.false_and]), hwr2⟩, by simp [intOf]; omega⟩
              · by_cases hqj : (q : Int) = j
                · have t1 : ((q : Int) == (j : Int)) = true := by rw [beq_iff_eq]; exact hqj
                  have HS1 : Hid ((notIn out j && (kept.take (m + 1)).all (fun x => !(p1 x == (j : Int)) || hasI out (p0 x))) = hasI out (p : Int)) := hide (by
                    rw [HAT.out, List.all_append, ← Bool.and_assoc, hf, Bool.true_and]
                    show ((!((q : Int) == (j : Int)) || hasI out (p : Int)) && true) = _
                    rw [t1]; simp)
                  clear t1
                  go_wp2_with fail
                  refine HC.out.mono ?_
                  rintro e w4 ⟨rfl, hw4⟩
                  go_wp2
                  exact ⟨⟨m + 1, by omega, by go_num, congrArg Value.bool HS1.out.symm, hwr2.trans hw4⟩, by simp [intOf]; omega⟩
                · have t1 : ((q : Int) == (j : Int)) = false := by rw [beq_eq_false_iff_ne]; exact hqj
                  have HS1 : Hid ((notIn out j && (kept.take (m + 1)).all (fun x => !(p1 x == (j : Int)) || hasI out (p0 x))) = true) := hide (by
                    rw [HAT.out, List.all_append, ← Bool.and_assoc, hf, Bool.true_and]
                    show ((!((q : Int) == (j : Int)) || hasI out (p : Int)) && true) = _
                    rw [t1]; simp)
                  clear t1
                  go_wp2
                  exact ⟨⟨m + 1, by omega, by go_num, congrArg Value.bool HS1.out.symm, hwr2⟩, by simp [intOf]; omega⟩
            · have hmk : m = kept.length := by omega
              have HQ : Hid (nextQ kept n out j = (notIn out j && (kept.take m).all (fun x => !(p1 x == (j : Int)) || hasI out (p0 x)))) := hide (by rw [HFR.out, List.take_of_length_le (by omega)])
              clear hmk
              cases hf : (notIn out j && (kept.take m).all (fun x => !(p1 x == (j : Int)) || hasI out (p0 x)))
              · rw [hf] at HQ
                go_wp2
                refine ⟨⟨j + 1, by omega, rfl, by go_num, fun i hi => ?_, hwr2⟩, by simp [intOf]; omega⟩
                by_cases hij : i = j
                · rw [hij]; exact HQ.out
                · exact hno.out i (by omega)
              · rw [hf] at HQ
                have HV : Hid (nextV kept n out = j) := hide (next_at hjt HQ.out hno.out)
                have hown := HO.out.ext hwr2
                have hwb2 := hwr.trans hwr2
                have hln := HEL.out
                go_wp2_with (at_builtin; go_loud (refine wpList_appI wb _ rfl (.tmp 53) (.tmp 55) rfl _ out _ rfl (by exact hown) hwb2 rfl (by omega) ?_); intro v' w4 hown4 hw4)
                rw [← HV.out, ← HNX.out] at hown4
                obtain ⟨a6, L6, c6, rfl, hL6, _⟩ := hown4.formR'
                rw [prL_len] at hL6
                exact ⟨⟨L5 + 1, by omega, hown4, hw4⟩, by show n - L6 < n - L5; omega⟩
        · exfalso
          obtain ⟨i, hi, hq, _⟩ := HSM.out
          rw [hno.out i (by omega)] at hq
          cases hq
    · have hkn : L5 = n := by omega
      have hd : decide (L5 < n) = false := by simpa using hlt
      have hown2 : OwnI wr wb.heap.size (.slice a5 L5 c5) (prkO n vs) := by
        rw [HP0.out]
        rwa [show prL kept n L5 = prL kept n n by rw [hkn]] at hown
      have HO := hide hown2
      clear hkn hown hown2
      go_wp2
      go_ret
      exact ⟨_, rfl, HO.out.base hw.size, hw.trans hwr⟩

set_option maxRecDepth 100000 in
set_option maxHeartbeats 2000000 in
theorem winS1 (w : World) (n : Nat) (a : Option Addr) (c : Nat) (vs : List Vt) (hR : RdV w a vs) (h0 : profOk n vs = true) :
    Calls Tryz.prog 162 #[.int .i64 1, .agg #[.int .i64 n, .slice a vs.length c]] w fun e w' => ∃ v, e = .returned v ∧ OwnI w' w.heap.size v (winL 1 n vs) ∧ Ext w w' := by
  have q0 := new0 w (.int .i64 n) [.slice a vs.length c] 29
  have q1 := new1 w (.int .i64 n) (.slice a vs.length c) [] 29
  have n1 : 1 ≤ n := by have := prof_size h0; omega
  have n2 : n ≤ 5 := by have := prof_size h0; omega
  have HV : Hid (winL 1 n vs = bestL (rowL n (scoV pluW vs))) := rfl
  have H0 := hide h0
  go_enter Tryz.func162, Tryz.ntmps162
  have hw := Ext.new w (.cells #[.int .i64 n, .slice a vs.length c] 29)
  clear h0
  go_wp2_with fail
  generalize w.alloc (.cells #[.int .i64 n, .slice a vs.length c] 29) = wb at hw q0 q1 ⊢
  refine wp_region_X (by kernel_rfl) (by kernel_rfl) ?_
  repeat' (refine wpX_stepQ (fun K hK => ?_)
           go_simp
           try (rw [if_neg (by intro h; simp [undef] at h)])
           try split
           all_goals
             first
             | (refine hK _ ?_
                clear hK K)
             | (apply Exists.intro
                refine ⟨fun wq hwq => ?_, hK _ ?_⟩
                · have hcq := hwq.cellS
                  go_simp
                  first
                  | exact ⟨Ext.refl _, rfl⟩
                clear hK K))
  refine wpX_stepS rfl (by kernel_rfl) (fun K hK wq hwq => ?_)
  go_simp
  refine (plu_spec _ n n1 n2).mono ?_
  rintro e w2 ⟨v, rfl, hv, hw2⟩
  refine ⟨hw2, hK _ _ ?_⟩
  clear hK K
  obtain ⟨av, cv, rfl, _, hRv, hju⟩ := hv.fr
  clear hju
  rw [rowL_len]
  refine wpX_stepS rfl (by kernel_rfl) (fun K hK wq hwq => ?_)
  go_simp
  refine (swin_spec _ n a av c cv vs pluW n2 (hR.ext (by repeat (first | exact Ext.refl _ | assumption | refine Ext.alloc ?_ _ | refine Ext.drew ?_ | refine Ext.trans ?_ (by assumption)))) (hRv.ext (by repeat (first | exact Ext.refl _ | assumption | refine Ext.alloc ?_ _ | refine Ext.drew ?_ | refine Ext.trans ?_ (by assumption)))) pluG H0.out).mono ?_
  rintro e w3 ⟨v3, rfl, hv3, hw3⟩
  refine ⟨hw3, hK _ _ ?_⟩
  clear hK K
  repeat' (refine wpX_stepQ (fun K hK => ?_)
           go_simp
           try (rw [if_neg (by intro h; simp [undef] at h)])
           try split
           all_goals
             first
             | (refine hK _ ?_
                clear hK K)
             | (apply Exists.intro
                refine ⟨fun wq hwq => ?_, hK _ ?_⟩
                · have hcq := hwq.cellS
                  go_simp
                  first
                  | exact ⟨Ext.refl _, rfl⟩
                clear hK K))
  refine wpX_nil (fun wz hwz => ?_)
  go_wp2
  go_ret
  exact ⟨_, rfl, by rw [HV.out]; exact (hv3.ext hwz).base (Ext.size (by repeat (first | exact Ext.refl _ | assumption | refine Ext.alloc ?_ _ | refine Ext.drew ?_ | refine Ext.trans ?_ (by assumption)))), (by repeat (first | exact Ext.refl _ | assumption | refine Ext.alloc ?_ _ | refine Ext.drew ?_ | refine Ext.trans ?_ (by assumption)))⟩

set_option maxRecDepth 100000 in
set_option maxHeartbeats 2000000 in
theorem winS2 (w : World) (n : Nat) (a : Option Addr) (c : Nat) (vs : List Vt) (hR : RdV w a vs) (h0 : profOk n vs = true) :
    Calls Tryz.prog 162 #[.int .i64 2, .agg #[.int .i64 n, .slice a vs.length c]] w fun e w' => ∃ v, e = .returned v ∧ OwnI w' w.heap.size v (winL 2 n vs) ∧ Ext w w' := by
  have q0 := new0 w (.int .i64 n) [.slice a vs.length c] 29
  have q1 := new1 w (.int .i64 n) (.slice a vs.length c) [] 29
  have n1 : 1 ≤ n := by have := prof_size h0; omega
  have n2 : n ≤ 5 := by have := prof_size h0; omega
  have HV : Hid (winL 2 n vs = bestL (rowL n (scoV (borW n) vs))) := rfl
  have H0 := hide h0
  go_enter Tryz.func162, Tryz.ntmps162
  have hw := Ext.new w (.cells #[.int .i64 n, .slice a vs.length c] 29)
  clear h0
  go_wp2_with fail
  generalize w.alloc (.cells #[.int .i64 n, .slice a vs.length c] 29) = wb at hw q0 q1 ⊢
  refine wp_region_X (by kernel_rfl) (by kernel_rfl) ?_
  repeat' (refine wpX_stepQ (fun K hK => ?_)
           go_simp
           try (rw [if_neg (by intro h; simp [undef] at h)])
           try split
           all_goals
             first
             | (refine hK _ ?_
                clear hK K)
             | (apply Exists.intro
                refine ⟨fun wq hwq => ?_, hK _ ?_⟩
                · have hcq := hwq.cellS
                  go_simp
                  first
                  | exact ⟨Ext.refl _, rfl⟩
                clear hK K))
  refine wpX_stepS rfl (by kernel_rfl) (fun K hK wq hwq => ?_)
  go_simp
  refine (bor_spec _ n n1 n2).mono ?_
  rintro e w2 ⟨v, rfl, hv, hw2⟩
  refine ⟨hw2, hK _ _ ?_⟩
  clear hK K
  obtain ⟨av, cv, rfl, _, hRv, hju⟩ := hv.fr
  clear hju
  rw [rowL_len]
  refine wpX_stepS rfl (by kernel_rfl) (fun K hK wq hwq => ?_)
  go_simp
  refine (swin_spec _ n a av c cv vs (borW n) n2 (hR.ext (by repeat (first | exact Ext.refl _ | assumption | refine Ext.alloc ?_ _ | refine Ext.drew ?_ | refine Ext.trans ?_ (by assumption)))) (hRv.ext (by repeat (first | exact Ext.refl _ | assumption | refine Ext.alloc ?_ _ | refine Ext.drew ?_ | refine Ext.trans ?_ (by assumption)))) (borG n2) H0.out).mono ?_
  rintro e w3 ⟨v3, rfl, hv3, hw3⟩
  refine ⟨hw3, hK _ _ ?_⟩
  clear hK K
  repeat' (refine wpX_stepQ (fun K hK => ?_)
           go_simp
           try (rw [if_neg (by intro h; simp [undef] at h)])
           try split
           all_goals
             first
             | (refine hK _ ?_
                clear hK K)
             | (apply Exists.intro
                refine ⟨fun wq hwq => ?_, hK _ ?_⟩
                · have hcq := hwq.cellS
                  go_simp
                  first
                  | exact ⟨Ext.refl _, rfl⟩
                clear hK K))
  refine wpX_nil (fun wz hwz => ?_)
  go_wp2
  go_ret
  exact ⟨_, rfl, by rw [HV.out]; exact (hv3.ext hwz).base (Ext.size (by repeat (first | exact Ext.refl _ | assumption | refine Ext.alloc ?_ _ | refine Ext.drew ?_ | refine Ext.trans ?_ (by assumption)))), (by repeat (first | exact Ext.refl _ | assumption | refine Ext.alloc ?_ _ | refine Ext.drew ?_ | refine Ext.trans ?_ (by assumption)))⟩

set_option maxRecDepth 100000 in
set_option maxHeartbeats 2000000 in
theorem winS3 (w : World) (n : Nat) (a : Option Addr) (c : Nat) (vs : List Vt) (hR : RdV w a vs) (h0 : profOk n vs = true) :
    Calls Tryz.prog 162 #[.int .i64 3, .agg #[.int .i64 n, .slice a vs.length c]] w fun e w' => ∃ v, e = .returned v ∧ OwnI w' w.heap.size v (winL 3 n vs) ∧ Ext w w' := by
  have q0 := new0 w (.int .i64 n) [.slice a vs.length c] 29
  have q1 := new1 w (.int .i64 n) (.slice a vs.length c) [] 29
  have n1 : 1 ≤ n := by have := prof_size h0; omega
  have n2 : n ≤ 5 := by have := prof_size h0; omega
  have HV : Hid (winL 3 n vs = bestL (rowL n (scoV (vetW n) vs))) := rfl
  have H0 := hide h0
  go_enter Tryz.func162, Tryz.ntmps162
  have hw := Ext.new w (.cells #[.int .i64 n, .slice a vs.length c] 29)
  clear h0
  go_wp2_with fail
  generalize w.alloc (.cells #[.int .i64 n, .slice a vs.length c] 29) = wb at hw q0 q1 ⊢
  refine wp_region_X (by kernel_rfl) (by kernel_rfl) ?_
  repeat' (refine wpX_stepQ (fun K hK => ?_)
           go_simp
           try (rw [if_neg (by intro h; simp [undef] at h)])
           try split
           all_goals
             first
             | (refine hK _ ?_
                clear hK K)
             | (apply Exists.intro
                refine ⟨fun wq hwq => ?_, hK _ ?_⟩
                · have hcq := hwq.cellS
                  go_simp
                  first
                  | exact ⟨Ext.refl _, rfl⟩
                clear hK K))
  refine wpX_stepS rfl (by kernel_rfl) (fun K hK wq hwq => ?_)
  go_simp
  refine (vet_spec _ n n1 n2).mono ?_
  rintro e w2 ⟨v, rfl, hv, hw2⟩
  refine ⟨hw2, hK _ _ ?_⟩
  clear hK K
  obtain ⟨av, cv, rfl, _, hRv, hju⟩ := hv.fr
  clear hju
  rw [rowL_len]
  refine wpX_stepS rfl (by kernel_rfl) (fun K hK wq hwq => ?_)
  go_simp
  refine (swin_spec _ n a av c cv vs (vetW n) n2 (hR.ext (by repeat (first | exact Ext.refl _ | assumption | refine Ext.alloc ?_ _ | refine Ext.drew ?_ | refine Ext.trans ?_ (by assumption)))) (hRv.ext (by repeat (first | exact Ext.refl _ | assumption | refine Ext.alloc ?_ _ | refine Ext.drew ?_ | refine Ext.trans ?_ (by assumption)))) (vetG n) H0.out).mono ?_
  rintro e w3 ⟨v3, rfl, hv3, hw3⟩
  refine ⟨hw3, hK _ _ ?_⟩
  clear hK K
  repeat' (refine wpX_stepQ (fun K hK => ?_)
           go_simp
           try (rw [if_neg (by intro h; simp [undef] at h)])
           try split
           all_goals
             first
             | (refine hK _ ?_
                clear hK K)
             | (apply Exists.intro
                refine ⟨fun wq hwq => ?_, hK _ ?_⟩
                · have hcq := hwq.cellS
                  go_simp
                  first
                  | exact ⟨Ext.refl _, rfl⟩
                clear hK K))
  refine wpX_nil (fun wz hwz => ?_)
  go_wp2
  go_ret
  exact ⟨_, rfl, by rw [HV.out]; exact (hv3.ext hwz).base (Ext.size (by repeat (first | exact Ext.refl _ | assumption | refine Ext.alloc ?_ _ | refine Ext.drew ?_ | refine Ext.trans ?_ (by assumption)))), (by repeat (first | exact Ext.refl _ | assumption | refine Ext.alloc ?_ _ | refine Ext.drew ?_ | refine Ext.trans ?_ (by assumption)))⟩

set_option maxRecDepth 100000 in
set_option maxHeartbeats 2000000 in
theorem winS4 (w : World) (n : Nat) (a : Option Addr) (c : Nat) (vs : List Vt) (hR : RdV w a vs) (h0 : profOk n vs = true) :
    Calls Tryz.prog 162 #[.int .i64 4, .agg #[.int .i64 n, .slice a vs.length c]] w fun e w' => ∃ v, e = .returned v ∧ OwnI w' w.heap.size v (winL 4 n vs) ∧ Ext w w' := by
  have q0 := new0 w (.int .i64 n) [.slice a vs.length c] 29
  have q1 := new1 w (.int .i64 n) (.slice a vs.length c) [] 29
  have n1 : 1 ≤ n := by have := prof_size h0; omega
  have n2 : n ≤ 5 := by have := prof_size h0; omega
  have HV : Hid (winL 4 n vs = bestL (copeO n vs)) := rfl
  have H0 := hide h0
  go_enter Tryz.func162, Tryz.ntmps162
  have hw := Ext.new w (.cells #[.int .i64 n, .slice a vs.length c] 29)
  clear h0
  go_wp2_with fail
  generalize w.alloc (.cells #[.int .i64 n, .slice a vs.length c] 29) = wb at hw q0 q1 ⊢
  refine (cope_spec _ n a c vs (hR.ext hw)).mono ?_
  rintro e w2 ⟨v, rfl, hv, hw2⟩
  obtain ⟨av, cv, rfl, _, hRs, hju⟩ := hv.fr
  clear hju
  have H := hide (best_spec5 w2 av cv (copeO n vs) hRs (by have := copeO_len n vs; omega))
  clear hv hRs
  go_wp2_with fail
  refine H.out.mono ?_
  rintro e w3 ⟨v3, rfl, hv3, hw3⟩
  have hs := (hw.trans hw2).size
  go_wp2
  go_ret
  exact ⟨_, rfl, by rw [HV.out]; exact hv3.base hs, hw.trans (hw2.trans hw3)⟩

set_option maxRecDepth 100000 in
set_option maxHeartbeats 2000000 in
theorem winS5 (w : World) (n : Nat) (a : Option Addr) (c : Nat) (vs : List Vt) (hR : RdV w a vs) (h0 : profOk n vs = true) :
    Calls Tryz.prog 162 #[.int .i64 5, .agg #[.int .i64 n, .slice a vs.length c]] w fun e w' => ∃ v, e = .returned v ∧ OwnI w' w.heap.size v (winL 5 n vs) ∧ Ext w w' := by
  have q0 := new0 w (.int .i64 n) [.slice a vs.length c] 29
  have q1 := new1 w (.int .i64 n) (.slice a vs.length c) [] 29
  have n1 : 1 ≤ n := by have := prof_size h0; omega
  have n2 : n ≤ 5 := by have := prof_size h0; omega
  have HV : Hid (winL 5 n vs = bestL (maxiO n vs)) := rfl
  have H0 := hide h0
  go_enter Tryz.func162, Tryz.ntmps162
  have hw := Ext.new w (.cells #[.int .i64 n, .slice a vs.length c] 29)
  clear h0
  go_wp2_with fail
  generalize w.alloc (.cells #[.int .i64 n, .slice a vs.length c] 29) = wb at hw q0 q1 ⊢
  refine (maxi_spec _ n a c vs (hR.ext hw)).mono ?_
  rintro e w2 ⟨v, rfl, hv, hw2⟩
  obtain ⟨av, cv, rfl, _, hRs, hju⟩ := hv.fr
  clear hju
  have H := hide (best_spec5 w2 av cv (maxiO n vs) hRs (by have := maxiO_len n vs; omega))
  clear hv hRs
  go_wp2_with fail
  refine H.out.mono ?_
  rintro e w3 ⟨v3, rfl, hv3, hw3⟩
  have hs := (hw.trans hw2).size
  go_wp2
  go_ret
  exact ⟨_, rfl, by rw [HV.out]; exact hv3.base hs, hw.trans (hw2.trans hw3)⟩

set_option maxRecDepth 100000 in
set_option maxHeartbeats 2000000 in
theorem winS6 (w : World) (n : Nat) (a : Option Addr) (c : Nat) (vs : List Vt) (hR : RdV w a vs) (h0 : profOk n vs = true) :
    Calls Tryz.prog 162 #[.int .i64 6, .agg #[.int .i64 n, .slice a vs.length c]] w fun e w' => ∃ v, e = .returned v ∧ OwnI w' w.heap.size v (winL 6 n vs) ∧ Ext w w' := by
  have q0 := new0 w (.int .i64 n) [.slice a vs.length c] 29
  have q1 := new1 w (.int .i64 n) (.slice a vs.length c) [] 29
  have n1 : 1 ≤ n := by have := prof_size h0; omega
  have n2 : n ≤ 5 := by have := prof_size h0; omega
  have HV : Hid (winL 6 n vs = [runO n vs]) := rfl
  have H0 := hide h0
  go_enter Tryz.func162, Tryz.ntmps162
  have hw := Ext.new w (.cells #[.int .i64 n, .slice a vs.length c] 29)
  clear h0
  go_wp2_with fail
  generalize w.alloc (.cells #[.int .i64 n, .slice a vs.length c] 29) = wb at hw q0 q1 ⊢
  refine (run_spec _ n a c vs (hR.ext hw)).mono ?_
  rintro e w2 ⟨rfl, hw2⟩
  have hs := (hw.trans hw2).size
  have hO := OwnI.lit1 w2 (runO n vs)
  go_wp2
  go_ret
  exact ⟨_, rfl, by rw [HV.out]; exact hO.base hs, hw.trans (hw2.trans (Ext.new _ _))⟩

set_option maxRecDepth 100000 in
set_option maxHeartbeats 2000000 in
theorem winS7 (w : World) (n : Nat) (a : Option Addr) (c : Nat) (vs : List Vt) (hR : RdV w a vs) (h0 : profOk n vs = true) :
    Calls Tryz.prog 162 #[.int .i64 7, .agg #[.int .i64 n, .slice a vs.length c]] w fun e w' => ∃ v, e = .returned v ∧ OwnI w' w.heap.size v (winL 7 n vs) ∧ Ext w w' := by
  have q0 := new0 w (.int .i64 n) [.slice a vs.length c] 29
  have q1 := new1 w (.int .i64 n) (.slice a vs.length c) [] 29
  have n1 : 1 ≤ n := by have := prof_size h0; omega
  have n2 : n ≤ 5 := by have := prof_size h0; omega
  have HV : Hid (winL 7 n vs = [lastI (elimO n vs (worF vs))]) := rfl
  have H0 := hide h0
  go_enter Tryz.func162, Tryz.ntmps162
  have hw := Ext.new w (.cells #[.int .i64 n, .slice a vs.length c] 29)
  clear h0
  go_wp2_with fail
  generalize w.alloc (.cells #[.int .i64 n, .slice a vs.length c] 29) = wb at hw q0 q1 ⊢
  refine (inst_spec _ n a c vs (hR.ext hw)).mono ?_
  rintro e w2 ⟨v, rfl, hv, hw2⟩
  obtain ⟨av, cv, rfl, _, hRs, hju⟩ := hv.fr
  clear hju
  have H := hide (lastOf_spec w2 av cv (elimO n vs (worF vs)) hRs (by have := elimO_len n vs (worF vs); omega))
  clear hv hRs
  go_wp2_with fail
  refine H.out.mono ?_
  rintro e w3 ⟨rfl, hw3⟩
  have hs := (hw.trans (hw2.trans hw3)).size
  have hO := OwnI.lit1 w3 (lastI (elimO n vs (worF vs)))
  go_wp2
  go_ret
  exact ⟨_, rfl, by rw [HV.out]; exact hO.base hs, hw.trans (hw2.trans (hw3.trans (Ext.new _ _)))⟩

set_option maxRecDepth 100000 in
set_option maxHeartbeats 2000000 in
theorem winS8 (w : World) (n : Nat) (a : Option Addr) (c : Nat) (vs : List Vt) (hR : RdV w a vs) (h0 : profOk n vs = true) :
    Calls Tryz.prog 162 #[.int .i64 8, .agg #[.int .i64 n, .slice a vs.length c]] w fun e w' => ∃ v, e = .returned v ∧ OwnI w' w.heap.size v (winL 8 n vs) ∧ Ext w w' := by
  have q0 := new0 w (.int .i64 n) [.slice a vs.length c] 29
  have q1 := new1 w (.int .i64 n) (.slice a vs.length c) [] 29
  have n1 : 1 ≤ n := by have := prof_size h0; omega
  have n2 : n ≤ 5 := by have := prof_size h0; omega
  have HV : Hid (winL 8 n vs = [lastI (elimO n vs (worL vs))]) := rfl
  have H0 := hide h0
  go_enter Tryz.func162, Tryz.ntmps162
  have hw := Ext.new w (.cells #[.int .i64 n, .slice a vs.length c] 29)
  clear h0
  go_wp2_with fail
  generalize w.alloc (.cells #[.int .i64 n, .slice a vs.length c] 29) = wb at hw q0 q1 ⊢
  refine (coom_spec _ n a c vs (hR.ext hw)).mono ?_
  rintro e w2 ⟨v, rfl, hv, hw2⟩
  obtain ⟨av, cv, rfl, _, hRs, hju⟩ := hv.fr
  clear hju
  have H := hide (lastOf_spec w2 av cv (elimO n vs (worL vs)) hRs (by have := elimO_len n vs (worL vs); omega))
  clear hv hRs
  go_wp2_with fail
  refine H.out.mono ?_
  rintro e w3 ⟨rfl, hw3⟩
  have hs := (hw.trans (hw2.trans hw3)).size
  have hO := OwnI.lit1 w3 (lastI (elimO n vs (worL vs)))
  go_wp2
  go_ret
  exact ⟨_, rfl, by rw [HV.out]; exact hO.base hs, hw.trans (hw2.trans (hw3.trans (Ext.new _ _)))⟩

set_option maxRecDepth 100000 in
set_option maxHeartbeats 2000000 in
theorem winS9 (w : World) (n : Nat) (a : Option Addr) (c : Nat) (vs : List Vt) (hR : RdV w a vs) (h0 : profOk n vs = true) :
    Calls Tryz.prog 162 #[.int .i64 9, .agg #[.int .i64 n, .slice a vs.length c]] w fun e w' => ∃ v, e = .returned v ∧ OwnI w' w.heap.size v (winL 9 n vs) ∧ Ext w w' := by
  have q0 := new0 w (.int .i64 n) [.slice a vs.length c] 29
  have q1 := new1 w (.int .i64 n) (.slice a vs.length c) [] 29
  have n1 : 1 ≤ n := by have := prof_size h0; omega
  have n2 : n ≤ 5 := by have := prof_size h0; omega
  have HV : Hid (winL 9 n vs = [lastI (elimO n vs (worP vs))]) := rfl
  have H0 := hide h0
  go_enter Tryz.func162, Tryz.ntmps162
  have hw := Ext.new w (.cells #[.int .i64 n, .slice a vs.length c] 29)
  clear h0
  go_wp2_with fail
  generalize w.alloc (.cells #[.int .i64 n, .slice a vs.length c] 29) = wb at hw q0 q1 ⊢
  refine (bald_spec _ n a c vs (hR.ext hw)).mono ?_
  rintro e w2 ⟨v, rfl, hv, hw2⟩
  obtain ⟨av, cv, rfl, _, hRs, hju⟩ := hv.fr
  clear hju
  have H := hide (lastOf_spec w2 av cv (elimO n vs (worP vs)) hRs (by have := elimO_len n vs (worP vs); omega))
  clear hv hRs
  go_wp2_with fail
  refine H.out.mono ?_
  rintro e w3 ⟨rfl, hw3⟩
  have hs := (hw.trans (hw2.trans hw3)).size
  have hO := OwnI.lit1 w3 (lastI (elimO n vs (worP vs)))
  go_wp2
  go_ret
  exact ⟨_, rfl, by rw [HV.out]; exact hO.base hs, hw.trans (hw2.trans (hw3.trans (Ext.new _ _)))⟩

set_option maxRecDepth 100000 in
set_option maxHeartbeats 2000000 in
theorem winS10 (w : World) (n : Nat) (a : Option Addr) (c : Nat) (vs : List Vt) (hR : RdV w a vs) (h0 : profOk n vs = true) :
    Calls Tryz.prog 162 #[.int .i64 10, .agg #[.int .i64 n, .slice a vs.length c]] w fun e w' => ∃ v, e = .returned v ∧ OwnI w' w.heap.size v (winL 10 n vs) ∧ Ext w w' := by
  have q0 := new0 w (.int .i64 n) [.slice a vs.length c] 29
  have q1 := new1 w (.int .i64 n) (.slice a vs.length c) [] 29
  have n1 : 1 ≤ n := by have := prof_size h0; omega
  have n2 : n ≤ 5 := by have := prof_size h0; omega
  have HV : Hid (winL 10 n vs = [bukO n vs]) := rfl
  have H0 := hide h0
  go_enter Tryz.func162, Tryz.ntmps162
  have hw := Ext.new w (.cells #[.int .i64 n, .slice a vs.length c] 29)
  clear h0
  go_wp2_with fail
  generalize w.alloc (.cells #[.int .i64 n, .slice a vs.length c] 29) = wb at hw q0 q1 ⊢
  refine (bukO_spec _ n a c vs (hR.ext hw)).mono ?_
  rintro e w2 ⟨rfl, hw2⟩
  have hs := (hw.trans hw2).size
  have hO := OwnI.lit1 w2 (bukO n vs)
  go_wp2
  go_ret
  exact ⟨_, rfl, by rw [HV.out]; exact hO.base hs, hw.trans (hw2.trans (Ext.new _ _))⟩

set_option maxRecDepth 100000 in
set_option maxHeartbeats 2000000 in
theorem winS11 (w : World) (n : Nat) (a : Option Addr) (c : Nat) (vs : List Vt) (hR : RdV w a vs) (h0 : profOk n vs = true) :
    Calls Tryz.prog 162 #[.int .i64 11, .agg #[.int .i64 n, .slice a vs.length c]] w fun e w' => ∃ v, e = .returned v ∧ OwnI w' w.heap.size v (winL 11 n vs) ∧ Ext w w' := by
  have q0 := new0 w (.int .i64 n) [.slice a vs.length c] 29
  have q1 := new1 w (.int .i64 n) (.slice a vs.length c) [] 29
  have n1 : 1 ≤ n := by have := prof_size h0; omega
  have n2 : n ≤ 5 := by have := prof_size h0; omega
  have HV : Hid (winL 11 n vs = schO n vs) := rfl
  have H0 := hide h0
  go_enter Tryz.func162, Tryz.ntmps162
  have hw := Ext.new w (.cells #[.int .i64 n, .slice a vs.length c] 29)
  clear h0
  go_wp2_with fail
  generalize w.alloc (.cells #[.int .i64 n, .slice a vs.length c] 29) = wb at hw q0 q1 ⊢
  refine (sch_spec _ n a c vs (hR.ext hw)).mono ?_
  rintro e w2 ⟨v, rfl, hv, hw2⟩
  have hs := hw.size
  go_wp2
  go_ret
  exact ⟨_, rfl, by rw [HV.out]; exact hv.base hs, hw.trans hw2⟩

set_option maxRecDepth 100000 in
set_option maxHeartbeats 2000000 in
theorem winS12 (w : World) (n : Nat) (a : Option Addr) (c : Nat) (vs : List Vt) (hR : RdV w a vs) (h0 : profOk n vs = true) :
    Calls Tryz.prog 162 #[.int .i64 12, .agg #[.int .i64 n, .slice a vs.length c]] w fun e w' => ∃ v, e = .returned v ∧ OwnI w' w.heap.size v (winL 12 n vs) ∧ Ext w w' := by
  have q0 := new0 w (.int .i64 n) [.slice a vs.length c] 29
  have q1 := new1 w (.int .i64 n) (.slice a vs.length c) [] 29
  have n1 : 1 ≤ n := by have := prof_size h0; omega
  have n2 : n ≤ 5 := by have := prof_size h0; omega
  have HV : Hid (winL 12 n vs = (prkO n vs).take 1) := rfl
  have H0 := hide h0
  go_enter Tryz.func162, Tryz.ntmps162
  have hw := Ext.new w (.cells #[.int .i64 n, .slice a vs.length c] 29)
  clear h0
  go_wp2_with fail
  generalize w.alloc (.cells #[.int .i64 n, .slice a vs.length c] 29) = wb at hw q0 q1 ⊢
  refine (prk_spec _ n a c vs (hR.ext hw)).mono ?_
  rintro e w2 ⟨v, rfl, hv, hw2⟩
  have hs := hw.size
  obtain ⟨y, ys, hys⟩ := rank1 (show (prkO n vs).length = n from prkO_full n1 n2 H0.out) n1
  have HY := hide hys
  rw [hys] at hv
  clear hys
  obtain ⟨av, cv, rfl, hcv, _, hRv, _⟩ := hv.val
  have hl : 1 ≤ (y :: ys).length := by simp
  have hlc : 1 ≤ cv := Nat.le_trans hl hcv
  have hO := hide (hv.short 1 hl)
  clear hv hRv hcv
  go_wp2
  go_ret
  exact ⟨_, rfl, by rw [HV.out, HY.out]; exact hO.out.base hs, hw.trans hw2⟩

set_option maxRecDepth 100000 in
set_option maxHeartbeats 2000000 in
theorem winS13 (w : World) (n : Nat) (a : Option Addr) (c : Nat) (vs : List Vt) (hR : RdV w a vs) (h0 : profOk n vs = true) :
    Calls Tryz.prog 162 #[.int .i64 13, .agg #[.int .i64 n, .slice a vs.length c]] w fun e w' => ∃ v, e = .returned v ∧ OwnI w' w.heap.size v (winL 13 n vs) ∧ Ext w w' := by
  have q0 := new0 w (.int .i64 n) [.slice a vs.length c] 29
  have q1 := new1 w (.int .i64 n) (.slice a vs.length c) [] 29
  have n1 : 1 ≤ n := by have := prof_size h0; omega
  have n2 : n ≤ 5 := by have := prof_size h0; omega
  have HV : Hid (winL 13 n vs = (kemO n vs).take 1) := rfl
  have H0 := hide h0
  go_enter Tryz.func162, Tryz.ntmps162
  have hw := Ext.new w (.cells #[.int .i64 n, .slice a vs.length c] 29)
  clear h0
  go_wp2_with fail
  generalize w.alloc (.cells #[.int .i64 n, .slice a vs.length c] 29) = wb at hw q0 q1 ⊢
  refine (kem_spec _ n a c vs (hR.ext hw) H0.out).mono ?_
  rintro e w2 ⟨v, rfl, hv, hw2⟩
  have hs := hw.size
  obtain ⟨y, ys, hys⟩ := rank1 (show (kemO n vs).length = n from kemO_full n1 n2 H0.out) n1
  have HY := hide hys
  rw [hys] at hv
  clear hys
  obtain ⟨av, cv, rfl, hcv, _, hRv, _⟩ := hv.val
  have hl : 1 ≤ (y :: ys).length := by simp
  have hlc : 1 ≤ cv := Nat.le_trans hl hcv
  have hO := hide (hv.short 1 hl)
  clear hv hRv hcv
  go_wp2
  go_ret
  exact ⟨_, rfl, by rw [HV.out, HY.out]; exact hO.out.base hs, hw.trans hw2⟩

set_option maxRecDepth 100000 in
set_option maxHeartbeats 2000000 in
theorem winS0 (w : World) (rule : Int) (n : Nat) (a : Option Addr) (c : Nat) (vs : List Vt) (_hR : RdV w a vs) (_h0 : profOk n vs = true) (hr : ¬ (1 ≤ rule ∧ rule ≤ 13)) :
    Calls Tryz.prog 162 #[.int .i64 rule, .agg #[.int .i64 n, .slice a vs.length c]] w fun e w' => ∃ v, e = .returned v ∧ OwnI w' w.heap.size v (winL rule n vs) ∧ Ext w w' := by
  have q0 := new0 w (.int .i64 n) [.slice a vs.length c] 29
  have q1 := new1 w (.int .i64 n) (.slice a vs.length c) [] 29
  have HV := hide (winL_out (n := n) (vs := vs) hr)
  have e1 : (rule == 1) = false := by rw [beq_eq_false_iff_ne]; omega
  have e2 : (rule == 2) = false := by rw [beq_eq_false_iff_ne]; omega
  have e3 : (rule == 3) = false := by rw [beq_eq_false_iff_ne]; omega
  have e4 : (rule == 4) = false := by rw [beq_eq_false_iff_ne]; omega
  have e5 : (rule == 5) = false := by rw [beq_eq_false_iff_ne]; omega
  have e6 : (rule == 6) = false := by rw [beq_eq_false_iff_ne]; omega
  have e7 : (rule == 7) = false := by rw [beq_eq_false_iff_ne]; omega
  have e8 : (rule == 8) = false := by rw [beq_eq_false_iff_ne]; omega
  have e9 : (rule == 9) = false := by rw [beq_eq_false_iff_ne]; omega
  have e10 : (rule == 10) = false := by rw [beq_eq_false_iff_ne]; omega
  have e11 : (rule == 11) = false := by rw [beq_eq_false_iff_ne]; omega
  have e12 : (rule == 12) = false := by rw [beq_eq_false_iff_ne]; omega
  have e13 : (rule == 13) = false := by rw [beq_eq_false_iff_ne]; omega
  clear hr
  go_enter Tryz.func162, Tryz.ntmps162
  go_wp2
  go_ret
  exact ⟨_, rfl, by rw [HV.out]; exact OwnI.nil _ _, (by repeat (first | exact Ext.refl _ | assumption | refine Ext.alloc ?_ _ | refine Ext.drew ?_ | refine Ext.trans ?_ (by assumption)))⟩

set_option maxRecDepth 100000 in
theorem win_spec_ok (w : World) (rule : Int) (n : Nat) (a : Option Addr) (c : Nat) (vs : List Vt) (hR : RdV w a vs) (h0 : profOk n vs = true) :
    Calls Tryz.prog 162 #[.int .i64 rule, .agg #[.int .i64 n, .slice a vs.length c]] w fun e w' => ∃ v, e = .returned v ∧ OwnI w' w.heap.size v (winL rule n vs) ∧ Ext w w' := by
  by_cases hr : 1 ≤ rule ∧ rule ≤ 13
  · have hr : rule = 1 ∨ rule = 2 ∨ rule = 3 ∨ rule = 4 ∨ rule = 5 ∨ rule = 6 ∨ rule = 7 ∨ rule = 8 ∨ rule = 9 ∨ rule = 10 ∨ rule = 11 ∨ rule = 12 ∨ rule = 13 := by omega
    rcases hr with rfl | rfl | rfl | rfl | rfl | rfl | rfl | rfl | rfl | rfl | rfl | rfl | rfl
    · exact winS1 w n a c vs hR h0
    · exact winS2 w n a c vs hR h0
    · exact winS3 w n a c vs hR h0
    · exact winS4 w n a c vs hR h0
    · exact winS5 w n a c vs hR h0
    · exact winS6 w n a c vs hR h0
    · exact winS7 w n a c vs hR h0
    · exact winS8 w n a c vs hR h0
    · exact winS9 w n a c vs hR h0
    · exact winS10 w n a c vs hR h0
    · exact winS11 w n a c vs hR h0
    · exact winS12 w n a c vs hR h0
    · exact winS13 w n a c vs hR h0
  · exact winS0 w rule n a c vs hR h0 hr

set_option maxRecDepth 100000 in
set_option maxHeartbeats 1000000 in
theorem wins_spec (w : World) (rule sz : Int) (a : Option Addr) (c : Nat) (vs : List Vt) (hR : RdV w a vs) :
    Calls Tryz.prog 131 #[.int .i64 rule, .agg #[.int .i64 sz, .slice a vs.length c]] w fun e w' => ∃ v, e = .returned v ∧ OwnI w' w.heap.size v (winO rule sz vs) ∧ Ext w w' := by
  have q0 := new0 w (.int .i64 sz) [.slice a vs.length c] 29
  have q1 := new1 w (.int .i64 sz) (.slice a vs.length c) [] 29
  cases h0 : profOk sz vs
  · go_enter Tryz.func131, Tryz.ntmps131
    go_wp2_with (go_at_call 127; refine (prof_spec _ _ _ _ _ (hR.ext (by repeat (first | exact Ext.refl _ | assumption | refine Ext.alloc ?_ _ | refine Ext.drew ?_ | refine Ext.trans ?_ (by assumption))))).mono ?_; rintro e w1 ⟨rfl, hw1⟩; have q0 := Ext.keep (w' := w1) (by repeat (first | exact Ext.refl _ | assumption | refine Ext.alloc ?_ _ | refine Ext.drew ?_ | refine Ext.trans ?_ (by assumption))) q0; have q1 := Ext.keep (w' := w1) (by repeat (first | exact Ext.refl _ | assumption | refine Ext.alloc ?_ _ | refine Ext.drew ?_ | refine Ext.trans ?_ (by assumption))) q1)
    go_ret
    exact ⟨_, rfl, by simp [winO, h0]; exact OwnI.nil _ _, (by repeat (first | exact Ext.refl _ | assumption | refine Ext.alloc ?_ _ | refine Ext.drew ?_ | refine Ext.trans ?_ (by assumption)))⟩
  · obtain ⟨n, rfl, n1, n2⟩ := prof_nat h0
    have HV := hide (winO_eq (rule := rule) h0)
    have H0 := hide h0
    go_enter Tryz.func131, Tryz.ntmps131
    go_wp2_with (go_at_call 127; refine (prof_spec _ _ _ _ _ (hR.ext (by repeat (first | exact Ext.refl _ | assumption | refine Ext.alloc ?_ _ | refine Ext.drew ?_ | refine Ext.trans ?_ (by assumption))))).mono ?_; rintro e w1 ⟨rfl, hw1⟩; have q0 := Ext.keep (w' := w1) (by repeat (first | exact Ext.refl _ | assumption | refine Ext.alloc ?_ _ | refine Ext.drew ?_ | refine Ext.trans ?_ (by assumption))) q0; have q1 := Ext.keep (w' := w1) (by repeat (first | exact Ext.refl _ | assumption | refine Ext.alloc ?_ _ | refine Ext.drew ?_ | refine Ext.trans ?_ (by assumption))) q1)
    clear h0
    have hw : Ext w w1 := (by repeat (first | exact Ext.refl _ | assumption | refine Ext.alloc ?_ _ | refine Ext.drew ?_ | refine Ext.trans ?_ (by assumption)))
    obtain ⟨wb, hwb⟩ : ∃ wb : World, wb = w1 := ⟨_, rfl⟩
    subst hwb
    clear hw1
    have hO := OwnI.made0 wb
    have hE := Ext.new wb (.cells #[] 3)
    generalize wb.alloc (.cells #[] 3) = W0 at hO hE ⊢
    have q0 := hE.keep q0
    have q1 := hE.keep q1
    have hlen := winO_len rule n vs
    rw [HV.out] at hlen
    go_wp2_with fail
    refine (win_spec_ok _ rule n a c vs (hR.ext (hw.trans hE)) H0.out).mono ?_
    rintro e w2 ⟨v, rfl, hv, hw2⟩
    obtain ⟨av, cv, rfl, _, _, hRv, _⟩ := hv.val
    have hO2 := hO.ext hw2
    have hs := (hE.trans hw2).size
    go_wp2_with (at_builtin; go_loud (refine wpList_appG wb.heap.size _ rfl _ _ rfl _ [] (winL rule n vs) rfl (by exact hO2) hs av _ cv rfl rfl hRv (by simp; omega) ?_); intro v1 w3 hO3 hg3 _)
    go_ret
    refine ⟨_, rfl, ?_, ?_⟩
    · rw [HV.out]
      exact OwnI.base hO3 hw.size
    · exact Ext.grown (hw.trans (hE.trans hw2)) hg3 (fun k hk => Nat.le_trans hw.size (ownsRow_block hO2 k hk))

end Go.Proofs.YtilcdnkkabmbfaaGreat
