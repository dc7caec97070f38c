/- FnRounds answers true at every input. -/
import Derived.Test.YthiojkpoeejkaaaCp12
import Derived.Test.YthiojkpoeejkaaaCp11
import Derived.Test.YthiojkpoeejkaaaCp23
import Derived.Test.YthiojkpoeejkaaaCp24
import Derived.Test.YthiojkpoeejkaaaCp2
import Derived.Test.YthiojkpoeejkaaaCp19
import Derived.Test.YthiojkpoeejkaaaCp25
import Derived.Test.YthiojkpoeejkaaaCp21
namespace Go.Proofs.Ythiojkpoeejkaaa
open Go.RowKit

set_option maxRecDepth 100000 in
theorem wor_bd {n : Nat} {vs : List Vt} (hS : SmallV n vs) (out : List Int) : Bd (rowL n (rouV n vs out)) := fun x hx => by
  obtain ⟨j, hj⟩ := List.mem_iff_getElem?.1 hx
  obtain ⟨_, rfl⟩ := rowL_val hj
  unfold rouV
  split
  · omega
  · have h : 0 ≤ worF vs (leftL n out) j ∧ worF vs (leftL n out) j ≤ 24000 := sumV_bd' hS
    omega

set_option maxRecDepth 100000 in
set_option maxHeartbeats 8000000 in
theorem rds_law (w : World) (a : Option Addr) (c : Nat) (bs : List Int) (hR : RdY w a bs) (_ : bs.length ≤ maxLen) :
    Calls Try.prog 8 #[.slice a bs.length c] w fun e w' => e = .returned (.bool true) ∧ Ext w w' := by
  by_cases hb : bs.length ≤ 1048576
  · go_enter Try.func8, Try.ntmps8
    go_wp2_with fail
    refine (numY_spec _ a c 0 bs (hR.ext (by repeat (first | exact Ext.refl _ | assumption | refine Ext.alloc ?_ _ | refine Ext.drew ?_ | refine Ext.trans ?_ (by assumption)))) hb (by omega)).mono ?_
    rintro e w1 ⟨x, rfl, hx, hw1⟩
    go_wp2_with fail
    obtain ⟨n, hn, n1, n5⟩ : ∃ n : Nat, 1 + (x : Int) % 5 = n ∧ 1 ≤ n ∧ n ≤ 5 := ⟨(1 + (x : Int) % 5).toNat, by omega, by omega, by omega⟩
    rw [hn]
    clear hn hx
    refine (mkprofC_spec _ a c 2 n bs (hR.ext (by repeat (first | exact Ext.refl _ | assumption | refine Ext.alloc ?_ _ | refine Ext.drew ?_ | refine Ext.trans ?_ (by assumption)))) hb (by omega) n1 (by omega)).mono ?_
    rintro e w2 ⟨v, rfl, a', vs, c', rfl, hRV, ⟨h0, v1, v5, v6⟩, hw2, hcap⟩
    have q0 := new0 w2 (.int .i64 n) [.slice a' vs.length c'] 47
    have q1 := new1 w2 (.int .i64 n) (.slice a' vs.length c') [] 47
    have hE := Ext.new w2 (.cells #[.int .i64 n, .slice a' vs.length c'] 47)
    go_wp2_with fail
    have hw := (Ext.trans hw1 hw2).trans hE
    have hRV := hRV.ext hE
    have HV := hide (⟨v1, v5, v6⟩ : 1 ≤ vs.length ∧ vs.length ≤ 5 ∧ ∀ x ∈ vs, x.2 ≤ 6)
    have HCAP := hide hcap
    have HNUM : Hid (∀ W' (k : Nat), k ≤ 1000 → Ext w W' → Calls Try.prog 11 #[.slice a bs.length c, .int .i64 k] W' fun e w' => ∃ x : Nat, e = .returned (.int .i64 x) ∧ x ≤ 65536 ∧ Ext W' w') := hide (fun W' k hk hW' => (numY_spec W' a c k bs (hR.ext hW') hb hk).mono fun e w' ⟨x, h1, h2, h3⟩ => ⟨x, h1, by omega, h3⟩)
    clear hR hb hw1 hw2 hE v1 v5 v6 hcap
    generalize w2.alloc (.cells #[.int .i64 n, .slice a' vs.length c'] 47) = W0 at hw hRV q0 q1 ⊢
    have H0 := hide h0
    have HS := hide (prof_small h0)
    refine (maj_impl _ n a' c' vs hRV).mono ?_
    rintro e w3 ⟨rfl, hw3⟩
    have q0 := hw3.keep q0
    have q1 := hw3.keep q1
    go_wp2_with fail
    refine (winner_impl _ n a' c' vs (hRV.ext hw3)).mono ?_
    rintro e w4 ⟨rfl, hw4⟩
    have q0 := hw4.keep q0
    have q1 := hw4.keep q1
    have hE4 := hw3.trans hw4
    clear hw3 hw4
    go_wp2_with fail
    refine (inst_impl _ n a' c' vs (hRV.ext hE4)).mono ?_
    rintro e w5 ⟨v, rfl, hv, hw5⟩
    have q0 := hw5.keep q0
    have q1 := hw5.keep q1
    obtain ⟨ao, co, rfl, hco, _, hRo, _⟩ := hv.val
    have hro := elim_rk (n := n) n1 n5 (worF vs)
    have hlo : (elimL n (worF vs) n).length = n := by have := (rk_len hro).1; omega
    rw [elimO_eq h0] at hRo hco ⊢
    rw [hlo] at hco ⊢
    clear hv
    have hE5 := hE4.trans hw5
    clear hE4
    clear hw5
    go_wp2_with fail
    refine (bald_impl _ n a' c' vs (hRV.ext hE5)).mono ?_
    rintro e w6 ⟨v, rfl, hv, hw6⟩
    have q0 := hw6.keep q0
    have q1 := hw6.keep q1
    obtain ⟨ab, cb, rfl, hcb, _, hRb, _⟩ := hv.val
    have hrb := elim_rk (n := n) n1 n5 (worP vs)
    have hlb : (elimL n (worP vs) n).length = n := by have := (rk_len hrb).1; omega
    rw [elimO_eq h0] at hRb hcb ⊢
    rw [hlb] at hcb ⊢
    clear hv
    have hE6 := hE5.trans hw6
    clear hE5
    have hRo := hRo.ext hw6
    clear hw6
    go_wp2_with fail
    refine (coom_impl _ n a' c' vs (hRV.ext hE6)).mono ?_
    rintro e w7 ⟨v, rfl, hv, hw7⟩
    have q0 := hw7.keep q0
    have q1 := hw7.keep q1
    obtain ⟨ak, ck, rfl, hck, _, hRk, _⟩ := hv.val
    have hrk := elim_rk (n := n) n1 n5 (worL vs)
    have hlk : (elimL n (worL vs) n).length = n := by have := (rk_len hrk).1; omega
    rw [elimO_eq h0] at hRk hck ⊢
    rw [hlk] at hck ⊢
    clear hv
    have hE7 := hE6.trans hw7
    clear hE6
    have hRo := hRo.ext hw7
    have hRb := hRb.ext hw7
    clear hw7
    have hw := hw.trans hE7
    have hRV := hRV.ext hE7
    obtain ⟨wb, hwb⟩ : ∃ wb : World, wb = w7 := ⟨_, rfl⟩
    subst hwb
    clear hE7
    obtain ⟨xo, hxo⟩ := at_of_lt (xs := elimL n (worF vs) n) (k := 0) (by omega)
    obtain ⟨bo, oo, rfl, hju⟩ := hRo.at_ hxo
    clear hju hxo xo
    have HKO : Hid (ValC 41 #[.int .i64 n, .slice (some ⟨bo, oo, none⟩) n co] wb (.bool true)) := hide (fun W hW => by
      have h := rank_spec_n W n _ co (elimL n (worF vs) n) (hRo.ext hW) hlo (inR_iff.2 (by omega))
      rw [hro] at h
      exact h)
    have HKB : Hid (ValC 41 #[.int .i64 n, .slice ab n cb] wb (.bool true)) := hide (fun W hW => by
      have h := rank_spec_n W n _ cb (elimL n (worP vs) n) (hRb.ext hW) hlb (inR_iff.2 (by omega))
      rw [hrb] at h
      exact h)
    have HKK : Hid (ValC 41 #[.int .i64 n, .slice ak n ck] wb (.bool true)) := hide (fun W hW => by
      have h := rank_spec_n W n _ ck (elimL n (worL vs) n) (hRk.ext hW) hlk (inR_iff.2 (by omega))
      rw [hrk] at h
      exact h)
    have HLO : Hid (ValC 72 #[.slice (some ⟨bo, oo, none⟩) n co] wb (.int .i64 (lastI (elimL n (worF vs) n)))) := hide (fun W hW => by
      have h := lastOf_impl W _ co (elimL n (worF vs) n) (hRo.ext hW) (by omega)
      rw [hlo] at h
      exact h)
    have HLB : Hid (ValC 72 #[.slice ab n cb] wb (.int .i64 (lastI (elimL n (worP vs) n)))) := hide (fun W hW => by
      have h := lastOf_impl W _ cb (elimL n (worP vs) n) (hRb.ext hW) (by omega)
      rw [hlb] at h
      exact h)
    have HRU : Hid (ValC 73 #[.agg #[.int .i64 n, .slice a' vs.length c']] wb (.int .i64 (runO n vs))) := hide (fun W hW => run_impl W n a' c' vs (hRV.ext hW))
    have HBU : Hid (ValC 74 #[.agg #[.int .i64 n, .slice a' vs.length c']] wb (.int .i64 (bukO n vs))) := hide (fun W hW => bukO_impl W n a' c' vs (hRV.ext hW))
    have HLE : Hid (ValC 75 #[.agg #[.int .i64 n, .slice a' vs.length c']] wb (.int .i64 (levO n vs))) := hide (fun W hW => levO_impl W n a' c' vs (hRV.ext hW))
    have HCO : Hid (ValC 25 #[.agg #[.int .i64 n, .slice a' vs.length c']] wb (.int .i64 (allV vs))) := hide (fun W hW => by
      have h := count_impl W n a' c' vs (hRV.ext hW)
      rw [if_pos h0] at h
      exact h)
    have HRC : Hid (∀ k : Nat, k ≤ n → ∀ W, Ext wb W → Calls Try.prog 76 #[.agg #[.int .i64 n, .slice a' vs.length c'], .slice (some ⟨bo, oo, none⟩) k co] W fun e w' => ∃ v, e = .returned v ∧ WrI w' W.heap.size v (rouO n vs (elimL n (worF vs) k)) ∧ Ext W w') := hide (fun k hk W hW => by
      have hR := (hRo.ext hW).take k
      have hl : (elimL n (worF vs) k).length = k := by rw [← elim_take (worF vs) n k hk, List.length_take, hlo]; omega
      rw [elim_take (worF vs) n k hk] at hR
      have h := rou_impl W n a' _ c' co vs (elimL n (worF vs) k) (hRV.ext hW) hR (by omega)
      rw [hl] at h
      exact h)
    have HHK : Hid (∀ k : Nat, k ≤ n → ∀ x : Int, ValC 17 #[.slice (some ⟨bo, oo, none⟩) k co, .int .i64 x] wb (.bool (hasI (elimL n (worF vs) k) x))) := hide (fun k hk x W hW => by
      have hR := (hRo.ext hW).take k
      have hl : (elimL n (worF vs) k).length = k := by rw [← elim_take (worF vs) n k hk, List.length_take, hlo]; omega
      rw [elim_take (worF vs) n k hk] at hR
      exact has_law W _ k co (elimL n (worF vs) k) x hl.symm hR (by omega))
    have HRF : Hid (∀ k : Nat, k < n → rouO n vs (elimL n (worF vs) k) = rowL n (rouV n vs (elimL n (worF vs) k)) ∧ sgN (rouV n vs (elimL n (worF vs) k)) n + k = allV vs ∧ (∃ p : Nat, p < n ∧ (elimL n (worF vs) n)[k]? = some (p : Int) ∧ ∀ x : Nat, x < n → (x : Int) ∉ elimL n (worF vs) k → rouV n vs (elimL n (worF vs) k) p < rouV n vs (elimL n (worF vs) k) x ∨ (rouV n vs (elimL n (worF vs) k) p = rouV n vs (elimL n (worF vs) k) x ∧ x ≤ p)) ∧ Bd (rowL n (rouV n vs (elimL n (worF vs) k)))) := hide (fun k hk => ⟨(rou_f h0 hk).val, (rou_f h0 hk).sum, (rou_f h0 hk).pick, wor_bd (prof_small h0) _⟩)
    have HRE : Hid (rouO n vs (elimL n (worF vs) n) = []) := hide (rou_end h0)
    have HVB : Hid (0 ≤ allV vs ∧ allV vs ≤ 24000) := hide (sumV_bd' (prof_small h0))
    have hlev : ∃ L : Int, levO n vs = L ∧ 1 ≤ L ∧ 2 * L ≤ n + 2 := ⟨levV n vs, by unfold levO; rw [if_pos h0, Int.toNat_natCast], by have := (lev_half h0 HV.out.1).1; omega, by have := (lev_half h0 HV.out.1).2; omega⟩
    obtain ⟨L, eL, L1, L2⟩ := hlev
    obtain ⟨b0, hb0, eb0⟩ : ∃ b0 : Int, 0 ≤ b0 ∧ bukO n vs = b0 := by
      obtain ⟨b, _, h⟩ := buk_lt h0
      exact ⟨b, by omega, h⟩
    have HLE1 := HLE
    have HBU1 := HBU
    rw [eL] at HLE
    rw [eb0] at HBU
    have hmaj := maj_cases h0
    have hwin := win_cases h0
    have HMF : Hid (∀ x : Nat, x < n → allV vs < 2 * fstV vs x → MajF n vs x ∧ ∀ j, j < n → j ≠ x → bt vs x j = true) := hide (fun x hx hm => ⟨maj_f h0 hx hm, maj_beats (prof_small h0) hx hm⟩)
    have HBA : Hid (∀ x : Nat, x < n → (∀ j, j < n → j ≠ x → bt vs x j = true) → lastI (elimL n (worP vs) n) = x) := hide (fun x hx hb => win_bald (prof_small h0) hx hb)
    have HEI : Hid (elimO n vs (worF vs) = elimL n (worF vs) n) := hide (elimO_eq h0 _)
    have HRO := hide hRo
    clear hRo hRb hRk hRV HV HCAP HNUM H0 HS h0 hro hrb hrk hlo hlb hlk hcb hck eb0
    have Q0 := q0
    have Q1 := q1
    have hEr : Ext wb wb := Ext.refl _
    generalize allV vs = V at HCO HVB HMF hmaj HRF
    rcases hmaj with ⟨a0, ha0, ea, hm⟩ | ea
    · obtain ⟨hM, hbe⟩ := HMF.out a0 ha0 hm
      have eo := HEI.out ▸ hM.inst
      rw [hM.win, ea]
      rw [hM.buk] at HBU1
      rw [hM.lev] at HLE1
      rw [hM.run] at HRU
      rw [eo] at HLO
      rw [HBA.out a0 ha0 hbe] at HLB
      have g1 : (0 : Int) ≤ (a0 : Int) := by omega
      clear hM hbe eo hm HMF HBA hwin ea HEI
      go_wp2_with fail
      refine (HKO.out.at _ hEr).mono ?_
      rintro e w8 ⟨rfl, hw8⟩
      have q0 := hw8.keep q0
      have q1 := hw8.keep q1
      have hEr := hEr.trans hw8
      clear hw8
      go_wp2_with fail
      refine (HKB.out.at _ hEr).mono ?_
      rintro e w9 ⟨rfl, hw9⟩
      have q0 := hw9.keep q0
      have q1 := hw9.keep q1
      have hEr := hEr.trans hw9
      clear hw9
      go_wp2_with fail
      refine (HKK.out.at _ hEr).mono ?_
      rintro e w10 ⟨rfl, hw10⟩
      have q0 := hw10.keep q0
      have q1 := hw10.keep q1
      have hEr := hEr.trans hw10
      clear hw10
      go_wp2_with fail
      refine (HLO.out.at _ hEr).mono ?_
      rintro e w11 ⟨rfl, hw11⟩
      have q0 := hw11.keep q0
      have q1 := hw11.keep q1
      have hEr := hEr.trans hw11
      clear hw11
      go_wp2_with fail
      refine (HRU.out.at _ hEr).mono ?_
      rintro e w12 ⟨rfl, hw12⟩
      have q0 := hw12.keep q0
      have q1 := hw12.keep q1
      have hEr := hEr.trans hw12
      clear hw12
      go_wp2_with fail
      refine (HBU1.out.at _ hEr).mono ?_
      rintro e w13 ⟨rfl, hw13⟩
      have q0 := hw13.keep q0
      have q1 := hw13.keep q1
      have hEr := hEr.trans hw13
      clear hw13
      go_wp2_with fail
      refine (HLE1.out.at _ hEr).mono ?_
      rintro e w14 ⟨rfl, hw14⟩
      have q0 := hw14.keep q0
      have q1 := hw14.keep q1
      have hEr := hEr.trans hw14
      clear hw14
      go_wp2_with fail
      refine (HLB.out.at _ hEr).mono ?_
      rintro e w15 ⟨rfl, hw15⟩
      have q0 := hw15.keep q0
      have q1 := hw15.keep q1
      have hEr := hEr.trans hw15
      clear hw15
      go_wp2_with fail
      as_aux_lemma =>
        clear HLO HLB HRU HLE1 HBU1 HKO HKB HKK
        go_loopw [10, 11, 12] (fun i _ _ wr => ∃ k : Nat, k ≤ n ∧ i = .int .i64 k ∧ Ext wb wr) (fun i _ _ _ => n - (intOf i).toNat)
        case atStart => exact ⟨0, Nat.zero_le _, rfl, hEr⟩
        case round =>
          clear hEr
          obtain ⟨k, hk, rfl, hwr⟩ := hrel
          have q0 := hwr.keep Q0
          have q1 := hwr.keep Q1
          by_cases hlt : k < n
          · have hk1 : k + 1 ≤ n := by omega
            obtain ⟨hval, hsum, ⟨p, hp, hpk, hpick⟩, hbd⟩ := HRF.out k hlt
            have HRK := hide (HRC.out k hk)
            have HHX := hide (HHK.out k hk)
            rw [hval] at HRK
            clear hval
            generalize rouV n vs (elimL n (worF vs) k) = F at HRK hsum hpick hbd
            generalize elimL n (worF vs) k = Ok at HHX hpick
            obtain ⟨b5, o5, e5, d5⟩ := (HRO.out.ext hwr).at_ hpk
            injection e5 with e5
            injection e5 with e5 e6
            subst e5
            subst e6
            have hkc : k ≤ co := by omega
            have HPI := hide hpick
            have HSU : Hid (sgN F n + (k : Int) = V) := hide hsum
            have HBD := hide hbd
            clear hpk hpick hsum hbd
            go_wp2_with fail
            refine wp_region_X (by kernel_rfl) (by kernel_rfl) ?_
            repeat' (refine wpX_stepQ (fun K hK => ?_)
                     go_simp
                     try (rw [if_neg (by intro h; simp [undef] at h)])
                     try split
                     all_goals
                       first
                       | (refine hK _ ?_
                          clear hK K)
                       | (apply Exists.intro
                          refine ⟨fun wq hwq => ?_, hK _ ?_⟩
                          · have hcq := hwq.cellS
                            go_simp
                            first
                            | exact ⟨Ext.refl _, rfl⟩
                          clear hK K))
            refine wpX_stepS rfl (by kernel_rfl) (fun K hK wq hwq => ?_)
            go_simp
            refine (HRK.out _ (hwr.trans (by repeat (first | exact Ext.refl _ | assumption | refine Ext.alloc ?_ _ | refine Ext.drew ?_ | refine Ext.trans ?_ (by assumption))))).mono ?_
            rintro e w9 ⟨v, rfl, hv, hw9⟩
            refine ⟨hw9, hK _ _ ?_⟩
            clear hK K
            obtain ⟨an, cn, rfl, hju, hRn, hju2⟩ := hv.fr
            rw [rowL_len]
            clear hv hju hju2
            repeat' (refine wpX_stepQ (fun K hK => ?_)
                     go_simp
                     try (rw [if_neg (by intro h; simp [undef] at h)])
                     try split
                     all_goals
                       first
                       | (refine hK _ ?_
                          clear hK K)
                       | (apply Exists.intro
                          refine ⟨fun wq hwq => ?_, hK _ ?_⟩
                          · have hcq := hwq.cellS
                            go_simp
                            first
                            | exact ⟨Ext.refl _, rfl⟩
                          clear hK K))
            refine wpX_nil (fun wz hwz => ?_)
            have hEw : Ext wr wz := (by repeat (first | exact Ext.refl _ | assumption | refine Ext.alloc ?_ _ | refine Ext.drew ?_ | refine Ext.trans ?_ (by assumption)))
            have hEz := hwr.trans hEw
            have q0 := hEw.keep q0
            have q1 := hEw.keep q1
            have d5 := hEw.keep d5
            have hRn := hRn.ext hwz
            obtain ⟨wi, hwi⟩ : ∃ wi : World, wi = wz := ⟨_, rfl⟩
            subst hwi
            clear hw9 hwz hEw hwr
            have HSM : Hid (ValC 39 #[.slice an n cn] wi (.int .i64 (sgN F n))) := hide (fun W hW => by
              have h := sum_law W an n cn (rowL n F) (rowL_len _ _).symm (hRn.ext hW) (by rw [rowL_len]; omega) HBD.out
              rw [rowL_sum] at h
              exact h)
            have hRp := rowL_at (f := F) hp
            obtain ⟨b4, o4, rfl, d4⟩ := hRn.at_ hRp
            have HRN := hide hRn
            clear hRn hRp HRK HBD
            generalize sgN F n = S at HSM HSU
            have HY : Hid (IntKind.i64.wrap (S + (k : Int)) = V) := hide (by have := HSU.out; have := HVB.out; rw [IntWalk.i64_in _ (by omega)]; omega)
            have y1 := HY.out
            go_wp2
            refine wp_region_X (by kernel_rfl) (by kernel_rfl) ?_
            repeat' (refine wpX_stepQ (fun K hK => ?_)
                     go_simp
                     try (rw [if_neg (by intro h; simp [undef] at h)])
                     try split
                     all_goals
                       first
                       | (refine hK _ ?_
                          clear hK K)
                       | (apply Exists.intro
                          refine ⟨fun wq hwq => ?_, hK _ ?_⟩
                          · have hcq := hwq.cellS
                            go_simp
                            first
                            | exact ⟨Ext.refl _, rfl⟩
                            | exact ⟨Ext.refl _, HSM.out.at _ (by repeat (first | exact Ext.refl _ | assumption | refine Ext.alloc ?_ _ | refine Ext.drew ?_ | refine Ext.trans ?_ (by assumption)))⟩
                          clear hK K))
            repeat' (refine wpX_stepQ (fun K hK => ?_)
                     go_simp
                     try (rw [if_neg (by intro h; simp [undef] at h)])
                     try split
                     all_goals
                       first
                       | (refine hK _ ?_
                          clear hK K)
                       | (apply Exists.intro
                          refine ⟨fun wq hwq => ?_, hK _ ?_⟩
                          · have hcq := hwq.cellS
                            go_simp
                            first
                            | exact ⟨Ext.refl _, rfl⟩
                            | exact ⟨Ext.refl _, HCO.out.at _ (hEz.trans (by repeat (first | exact Ext.refl _ | assumption | refine Ext.alloc ?_ _ | refine Ext.drew ?_ | refine Ext.trans ?_ (by assumption))))⟩
                          clear hK K))
            refine wpX_nil (fun wz hwz => ?_)
            have D0 := hwz.keep q0
            have D1 := hwz.keep q1
            have D4 := hwz.keep d4
            have D5 := hwz.keep d5
            have HEI2 := hide (hEz.trans hwz)
            have HRN := hide (HRN.out.ext hwz)
            obtain ⟨wj, hwj⟩ : ∃ wj : World, wj = wz := ⟨_, rfl⟩
            subst hwj
            clear q0 q1 d4 d5 hwz hEz y1 HY HSM HSU
            go_wp2_with fail
            go_loopw [12] (fun j wr => ∃ x : Nat, x ≤ n ∧ j = .int .i64 x ∧ Ext wj wr) (fun j _ => n - (intOf j).toNat)
            case atStart => exact ⟨0, Nat.zero_le _, rfl, Ext.refl _⟩
            case round =>
              obtain ⟨x, hx, rfl, hwr⟩ := hrel
              have q0 := hwr.keep D0
              have q1 := hwr.keep D1
              by_cases hxl : x < n
              · have hx1 : x + 1 ≤ n := by omega
                obtain ⟨b6, o6, e6, d6⟩ := (HRN.out.ext hwr).at_ (rowL_at (f := F) hxl)
                injection e6 with e6
                injection e6 with e6 e7
                subst e6
                subst e7
                have d4 := hwr.keep D4
                have d5 := hwr.keep D5
                have HX := hide ((HHX.out (x : Int)).at _ (HEI2.out.trans hwr))
                have HX2 : Hid (∀ W, Ext wr W → Calls Try.prog 17 #[.slice (some ⟨bo, oo, none⟩) k co, .int .i64 x] W fun e w' => e = .returned (.bool (hasI Ok (x : Int))) ∧ Ext W w') := hide (fun W hW => (HHX.out (x : Int)).at W ((HEI2.out.trans hwr).trans hW))
                have hpx := HPI.out x hxl
                clear HX
                cases hh : hasI Ok (x : Int)
                · have hpx := hpx (fun hm => by rw [hasI_iff.2 hm] at hh; cases hh)
                  rw [hh] at HX2
                  clear hh
                  generalize F x = X at d6 hpx
                  generalize F p = Y at d4 hpx
                  rcases hpx with hlt2 | ⟨heq, hxp⟩
                  · have g1 : ¬ X < Y := by omega
                    have g2 : (X == Y) = false := by rw [beq_eq_false_iff_ne]; omega
                    clear hlt2
                    go_wp2_with fail
                    refine wp_region_X (by kernel_rfl) (by kernel_rfl) ?_
                    repeat' (refine wpX_stepQ (fun K hK => ?_)
                             go_simp
                             try (rw [if_neg (by intro h; simp [undef] at h)])
                             try split
                             all_goals
                               first
                               | (refine hK _ ?_
                                  clear hK K)
                               | (apply Exists.intro
                                  refine ⟨fun wq hwq => ?_, hK _ ?_⟩
                                  · have hcq := hwq.cellS
                                    go_simp
                                    first
                                    | exact ⟨Ext.refl _, rfl⟩
                                    | exact ⟨Ext.refl _, HX2.out _ (by repeat (first | exact Ext.refl _ | assumption | refine Ext.alloc ?_ _ | refine Ext.drew ?_ | refine Ext.trans ?_ (by assumption)))⟩
                                  clear hK K))
                    refine wpX_nil (fun wz hwz => ?_)
                    go_wp2
                    exact ⟨⟨x + 1, hx1, by go_num, hwr.trans hwz⟩, by simp [intOf]; omega⟩
                  · subst heq
                    have g1 : ¬ (p : Int) < (x : Int) := by omega
                    clear hxp
                    go_wp2_with fail
                    refine wp_region_X (by kernel_rfl) (by kernel_rfl) ?_
                    repeat' (refine wpX_stepQ (fun K hK => ?_)
                             go_simp
                             try (rw [if_neg (by intro h; simp [undef] at h)])
                             try split
                             all_goals
                               first
                               | (refine hK _ ?_
                                  clear hK K)
                               | (apply Exists.intro
                                  refine ⟨fun wq hwq => ?_, hK _ ?_⟩
                                  · have hcq := hwq.cellS
                                    go_simp
                                    first
                                    | exact ⟨Ext.refl _, rfl⟩
                                    | exact ⟨Ext.refl _, HX2.out _ (by repeat (first | exact Ext.refl _ | assumption | refine Ext.alloc ?_ _ | refine Ext.drew ?_ | refine Ext.trans ?_ (by assumption)))⟩
                                  clear hK K))
                    refine wpX_nil (fun wz hwz => ?_)
                    go_wp2
                    exact ⟨⟨x + 1, hx1, by go_num, hwr.trans hwz⟩, by simp [intOf]; omega⟩
                · rw [hh] at HX2
                  clear hh hpx d6 d4 d5
                  go_wp2_with fail
                  refine wp_region_X (by kernel_rfl) (by kernel_rfl) ?_
                  repeat' (refine wpX_stepQ (fun K hK => ?_)
                           go_simp
                           try (rw [if_neg (by intro h; simp [undef] at h)])
                           try split
                           all_goals
                             first
                             | (refine hK _ ?_
                                clear hK K)
                             | (apply Exists.intro
                                refine ⟨fun wq hwq => ?_, hK _ ?_⟩
                                · have hcq := hwq.cellS
                                  go_simp
                                  first
                                  | exact ⟨Ext.refl _, rfl⟩
                                  | exact ⟨Ext.refl _, HX2.out _ (by repeat (first | exact Ext.refl _ | assumption | refine Ext.alloc ?_ _ | refine Ext.drew ?_ | refine Ext.trans ?_ (by assumption)))⟩
                                clear hK K))
                  refine wpX_nil (fun wz hwz => ?_)
                  go_wp2
                  exact ⟨⟨x + 1, hx1, by go_num, hwr.trans hwz⟩, by simp [intOf]; omega⟩
              · have hw2 := HEI2.out.trans hwr
                go_wp2
                exact ⟨⟨k + 1, hk1, by go_num, hw2⟩, by simp [intOf]; omega⟩
          · have hEr := hwr
            have HRZ := hide (HRC.out n (Nat.le_refl _))
            rw [HRE.out] at HRZ
            clear hwr
            go_wp2_with fail
            refine (HLE.out.at _ hEr).mono ?_
            rintro e w9 ⟨rfl, hw9⟩
            have q0 := hw9.keep q0
            have q1 := hw9.keep q1
            have hEr := hEr.trans hw9
            clear hw9
            go_wp2_with fail
            refine (HBU.out.at _ hEr).mono ?_
            rintro e w10 ⟨rfl, hw10⟩
            have q0 := hw10.keep q0
            have q1 := hw10.keep q1
            have hEr := hEr.trans hw10
            clear hw10
            go_wp2_with fail
            refine (HRZ.out _ hEr).mono ?_
            rintro e w11 ⟨v, rfl, hv, hw11⟩
            obtain ⟨an, cn, rfl, hju, hju2, hju3⟩ := hv.fr
            have hw := hw.trans (hEr.trans hw11)
            clear hv hw11 hju hju2 hju3
            go_wp2
            go_ret
            exact ⟨rfl, hw⟩
    · rw [ea]
      rcases hwin with ⟨w0, hw0, ew, hbe⟩ | ⟨ew, _⟩
      · rw [ew]
        rw [HBA.out w0 hw0 hbe] at HLB
        have g1 : (0 : Int) ≤ (w0 : Int) := by omega
        clear hbe ew ea HMF HBA HEI
        go_wp2_with fail
        refine (HKO.out.at _ hEr).mono ?_
        rintro e w8 ⟨rfl, hw8⟩
        have q0 := hw8.keep q0
        have q1 := hw8.keep q1
        have hEr := hEr.trans hw8
        clear hw8
        go_wp2_with fail
        refine (HKB.out.at _ hEr).mono ?_
        rintro e w9 ⟨rfl, hw9⟩
        have q0 := hw9.keep q0
        have q1 := hw9.keep q1
        have hEr := hEr.trans hw9
        clear hw9
        go_wp2_with fail
        refine (HKK.out.at _ hEr).mono ?_
        rintro e w10 ⟨rfl, hw10⟩
        have q0 := hw10.keep q0
        have q1 := hw10.keep q1
        have hEr := hEr.trans hw10
        clear hw10
        go_wp2_with fail
        refine (HLB.out.at _ hEr).mono ?_
        rintro e w15 ⟨rfl, hw15⟩
        have q0 := hw15.keep q0
        have q1 := hw15.keep q1
        have hEr := hEr.trans hw15
        clear hw15
        go_wp2_with fail
        as_aux_lemma =>
          clear HLO HLB HRU HLE1 HBU1 HKO HKB HKK
          go_loopw [10, 11, 12] (fun i _ _ wr => ∃ k : Nat, k ≤ n ∧ i = .int .i64 k ∧ Ext wb wr) (fun i _ _ _ => n - (intOf i).toNat)
          case atStart => exact ⟨0, Nat.zero_le _, rfl, hEr⟩
          case round =>
            clear hEr
            obtain ⟨k, hk, rfl, hwr⟩ := hrel
            have q0 := hwr.keep Q0
            have q1 := hwr.keep Q1
            by_cases hlt : k < n
            · have hk1 : k + 1 ≤ n := by omega
              obtain ⟨hval, hsum, ⟨p, hp, hpk, hpick⟩, hbd⟩ := HRF.out k hlt
              have HRK := hide (HRC.out k hk)
              have HHX := hide (HHK.out k hk)
              rw [hval] at HRK
              clear hval
              generalize rouV n vs (elimL n (worF vs) k) = F at HRK hsum hpick hbd
              generalize elimL n (worF vs) k = Ok at HHX hpick
              obtain ⟨b5, o5, e5, d5⟩ := (HRO.out.ext hwr).at_ hpk
              injection e5 with e5
              injection e5 with e5 e6
              subst e5
              subst e6
              have hkc : k ≤ co := by omega
              have HPI := hide hpick
              have HSU : Hid (sgN F n + (k : Int) = V) := hide hsum
              have HBD := hide hbd
              clear hpk hpick hsum hbd
              go_wp2_with fail
              refine wp_region_X (by kernel_rfl) (by kernel_rfl) ?_
              repeat' (refine wpX_stepQ (fun K hK => ?_)
                       go_simp
                       try (rw [if_neg (by intro h; simp [undef] at h)])
                       try split
                       all_goals
                         first
                         | (refine hK _ ?_
                            clear hK K)
                         | (apply Exists.intro
                            refine ⟨fun wq hwq => ?_, hK _ ?_⟩
                            · have hcq := hwq.cellS
                              go_simp
                              first
                              | exact ⟨Ext.refl _, rfl⟩
                            clear hK K))
              refine wpX_stepS rfl (by kernel_rfl) (fun K hK wq hwq => ?_)
              go_simp
              refine (HRK.out _ (hwr.trans (by repeat (first | exact Ext.refl _ | assumption | refine Ext.alloc ?_ _ | refine Ext.drew ?_ | refine Ext.trans ?_ (by assumption))))).mono ?_
              rintro e w9 ⟨v, rfl, hv, hw9⟩
              refine ⟨hw9, hK _ _ ?_⟩
              clear hK K
              obtain ⟨an, cn, rfl, hju, hRn, hju2⟩ := hv.fr
              rw [rowL_len]
              clear hv hju hju2
              repeat' (refine wpX_stepQ (fun K hK => ?_)
                       go_simp
                       try (rw [if_neg (by intro h; simp [undef] at h)])
                       try split
                       all_goals
                         first
                         | (refine hK _ ?_
                            clear hK K)
                         | (apply Exists.intro
                            refine ⟨fun wq hwq => ?_, hK _ ?_⟩
                            · have hcq := hwq.cellS
                              go_simp
                              first
                              | exact ⟨Ext.refl _, rfl⟩
                            clear hK K))
              refine wpX_nil (fun wz hwz => ?_)
              have hEw : Ext wr wz := (by repeat (first | exact Ext.refl _ | assumption | refine Ext.alloc ?_ _ | refine Ext.drew ?_ | refine Ext.trans ?_ (by assumption)))
              have hEz := hwr.trans hEw
              have q0 := hEw.keep q0
              have q1 := hEw.keep q1
              have d5 := hEw.keep d5
              have hRn := hRn.ext hwz
              obtain ⟨wi, hwi⟩ : ∃ wi : World, wi = wz := ⟨_, rfl⟩
              subst hwi
              clear hw9 hwz hEw hwr
              have HSM : Hid (ValC 39 #[.slice an n cn] wi (.int .i64 (sgN F n))) := hide (fun W hW => by
                have h := sum_law W an n cn (rowL n F) (rowL_len _ _).symm (hRn.ext hW) (by rw [rowL_len]; omega) HBD.out
                rw [rowL_sum] at h
                exact h)
              have hRp := rowL_at (f := F) hp
              obtain ⟨b4, o4, rfl, d4⟩ := hRn.at_ hRp
              have HRN := hide hRn
              clear hRn hRp HRK HBD
              generalize sgN F n = S at HSM HSU
              have HY : Hid (IntKind.i64.wrap (S + (k : Int)) = V) := hide (by have := HSU.out; have := HVB.out; rw [IntWalk.i64_in _ (by omega)]; omega)
              have y1 := HY.out
              go_wp2
              refine wp_region_X (by kernel_rfl) (by kernel_rfl) ?_
              repeat' (refine wpX_stepQ (fun K hK => ?_)
                       go_simp
                       try (rw [if_neg (by intro h; simp [undef] at h)])
                       try split
                       all_goals
                         first
                         | (refine hK _ ?_
                            clear hK K)
                         | (apply Exists.intro
                            refine ⟨fun wq hwq => ?_, hK _ ?_⟩
                            · have hcq := hwq.cellS
                              go_simp
                              first
                              | exact ⟨Ext.refl _, rfl⟩
                              | exact ⟨Ext.refl _, HSM.out.at _ (by repeat (first | exact Ext.refl _ | assumption | refine Ext.alloc ?_ _ | refine Ext.drew ?_ | refine Ext.trans ?_ (by assumption)))⟩
                            clear hK K))
              repeat' (refine wpX_stepQ (fun K hK => ?_)
                       go_simp
                       try (rw [if_neg (by intro h; simp [undef] at h)])
                       try split
                       all_goals
                         first
                         | (refine hK _ ?_
                            clear hK K)
                         | (apply Exists.intro
                            refine ⟨fun wq hwq => ?_, hK _ ?_⟩
                            · have hcq := hwq.cellS
                              go_simp
                              first
                              | exact ⟨Ext.refl _, rfl⟩
                              | exact ⟨Ext.refl _, HCO.out.at _ (hEz.trans (by repeat (first | exact Ext.refl _ | assumption | refine Ext.alloc ?_ _ | refine Ext.drew ?_ | refine Ext.trans ?_ (by assumption))))⟩
                            clear hK K))
              refine wpX_nil (fun wz hwz => ?_)
              have D0 := hwz.keep q0
              have D1 := hwz.keep q1
              have D4 := hwz.keep d4
              have D5 := hwz.keep d5
              have HEI2 := hide (hEz.trans hwz)
              have HRN := hide (HRN.out.ext hwz)
              obtain ⟨wj, hwj⟩ : ∃ wj : World, wj = wz := ⟨_, rfl⟩
              subst hwj
              clear q0 q1 d4 d5 hwz hEz y1 HY HSM HSU
              go_wp2_with fail
              go_loopw [12] (fun j wr => ∃ x : Nat, x ≤ n ∧ j = .int .i64 x ∧ Ext wj wr) (fun j _ => n - (intOf j).toNat)
              case atStart => exact ⟨0, Nat.zero_le _, rfl, Ext.refl _⟩
              case round =>
                obtain ⟨x, hx, rfl, hwr⟩ := hrel
                have q0 := hwr.keep D0
                have q1 := hwr.keep D1
                by_cases hxl : x < n
                · have hx1 : x + 1 ≤ n := by omega
                  obtain ⟨b6, o6, e6, d6⟩ := (HRN.out.ext hwr).at_ (rowL_at (f := F) hxl)
                  injection e6 with e6
                  injection e6 with e6 e7
                  subst e6
                  subst e7
                  have d4 := hwr.keep D4
                  have d5 := hwr.keep D5
                  have HX := hide ((HHX.out (x : Int)).at _ (HEI2.out.trans hwr))
                  have HX2 : Hid (∀ W, Ext wr W → Calls Try.prog 17 #[.slice (some ⟨bo, oo, none⟩) k co, .int .i64 x] W fun e w' => e = .returned (.bool (hasI Ok (x : Int))) ∧ Ext W w') := hide (fun W hW => (HHX.out (x : Int)).at W ((HEI2.out.trans hwr).trans hW))
                  have hpx := HPI.out x hxl
                  clear HX
                  cases hh : hasI Ok (x : Int)
                  · have hpx := hpx (fun hm => by rw [hasI_iff.2 hm] at hh; cases hh)
                    rw [hh] at HX2
                    clear hh
                    generalize F x = X at d6 hpx
                    generalize F p = Y at d4 hpx
                    rcases hpx with hlt2 | ⟨heq, hxp⟩
                    · have g1 : ¬ X < Y := by omega
                      have g2 : (X == Y) = false := by rw [beq_eq_false_iff_ne]; omega
                      clear hlt2
                      go_wp2_with fail
                      refine wp_region_X (by kernel_rfl) (by kernel_rfl) ?_
                      repeat' (refine wpX_stepQ (fun K hK => ?_)
                               go_simp
                               try (rw [if_neg (by intro h; simp [undef] at h)])
                               try split
                               all_goals
                                 first
                                 | (refine hK _ ?_
                                    clear hK K)
                                 | (apply Exists.intro
                                    refine ⟨fun wq hwq => ?_, hK _ ?_⟩
                                    · have hcq := hwq.cellS
                                      go_simp
                                      first
                                      | exact ⟨Ext.refl _, rfl⟩
                                      | exact ⟨Ext.refl _, HX2.out _ (by repeat (first | exact Ext.refl _ | assumption | refine Ext.alloc ?_ _ | refine Ext.drew ?_ | refine Ext.trans ?_ (by assumption)))⟩
                                    clear hK K))
                      refine wpX_nil (fun wz hwz => ?_)
                      go_wp2
                      exact ⟨⟨x + 1, hx1, by go_num, hwr.trans hwz⟩, by simp [intOf]; omega⟩
                    · subst heq
                      have g1 : ¬ (p : Int) < (x : Int) := by omega
                      clear hxp
                      go_wp2_with fail
                      refine wp_region_X (by kernel_rfl) (by kernel_rfl) ?_
                      repeat' (refine wpX_stepQ (fun K hK => ?_)
                               go_simp
                               try (rw [if_neg (by intro h; simp [undef] at h)])
                               try split
                               all_goals
                                 first
                                 | (refine hK _ ?_
                                    clear hK K)
                                 | (apply Exists.intro
                                    refine ⟨fun wq hwq => ?_, hK _ ?_⟩
                                    · have hcq := hwq.cellS
                                      go_simp
                                      first
                                      | exact ⟨Ext.refl _, rfl⟩
                                      | exact ⟨Ext.refl _, HX2.out _ (by repeat (first | exact Ext.refl _ | assumption | refine Ext.alloc ?_ _ | refine Ext.drew ?_ | refine Ext.trans ?_ (by assumption)))⟩
                                    clear hK K))
                      refine wpX_nil (fun wz hwz => ?_)
                      go_wp2
                      exact ⟨⟨x + 1, hx1, by go_num, hwr.trans hwz⟩, by simp [intOf]; omega⟩
                  · rw [hh] at HX2
                    clear hh hpx d6 d4 d5
                    go_wp2_with fail
                    refine wp_region_X (by kernel_rfl) (by kernel_rfl) ?_
                    repeat' (refine wpX_stepQ (fun K hK => ?_)
                             go_simp
                             try (rw [if_neg (by intro h; simp [undef] at h)])
                             try split
                             all_goals
                               first
                               | (refine hK _ ?_
                                  clear hK K)
                               | (apply Exists.intro
                                  refine ⟨fun wq hwq => ?_, hK _ ?_⟩
                                  · have hcq := hwq.cellS
                                    go_simp
                                    first
                                    | exact ⟨Ext.refl _, rfl⟩
                                    | exact ⟨Ext.refl _, HX2.out _ (by repeat (first | exact Ext.refl _ | assumption | refine Ext.alloc ?_ _ | refine Ext.drew ?_ | refine Ext.trans ?_ (by assumption)))⟩
                                  clear hK K))
                    refine wpX_nil (fun wz hwz => ?_)
                    go_wp2
                    exact ⟨⟨x + 1, hx1, by go_num, hwr.trans hwz⟩, by simp [intOf]; omega⟩
                · have hw2 := HEI2.out.trans hwr
                  go_wp2
                  exact ⟨⟨k + 1, hk1, by go_num, hw2⟩, by simp [intOf]; omega⟩
            · have hEr := hwr
              have HRZ := hide (HRC.out n (Nat.le_refl _))
              rw [HRE.out] at HRZ
              clear hwr
              go_wp2_with fail
              refine (HLE.out.at _ hEr).mono ?_
              rintro e w9 ⟨rfl, hw9⟩
              have q0 := hw9.keep q0
              have q1 := hw9.keep q1
              have hEr := hEr.trans hw9
              clear hw9
              go_wp2_with fail
              refine (HBU.out.at _ hEr).mono ?_
              rintro e w10 ⟨rfl, hw10⟩
              have q0 := hw10.keep q0
              have q1 := hw10.keep q1
              have hEr := hEr.trans hw10
              clear hw10
              go_wp2_with fail
              refine (HRZ.out _ hEr).mono ?_
              rintro e w11 ⟨v, rfl, hv, hw11⟩
              obtain ⟨an, cn, rfl, hju, hju2, hju3⟩ := hv.fr
              have hw := hw.trans (hEr.trans hw11)
              clear hv hw11 hju hju2 hju3
              go_wp2
              go_ret
              exact ⟨rfl, hw⟩
      · rw [ew]
        clear ew ea HMF HBA HEI
        go_wp2_with fail
        refine (HKO.out.at _ hEr).mono ?_
        rintro e w8 ⟨rfl, hw8⟩
        have q0 := hw8.keep q0
        have q1 := hw8.keep q1
        have hEr := hEr.trans hw8
        clear hw8
        go_wp2_with fail
        refine (HKB.out.at _ hEr).mono ?_
        rintro e w9 ⟨rfl, hw9⟩
        have q0 := hw9.keep q0
        have q1 := hw9.keep q1
        have hEr := hEr.trans hw9
        clear hw9
        go_wp2_with fail
        refine (HKK.out.at _ hEr).mono ?_
        rintro e w10 ⟨rfl, hw10⟩
        have q0 := hw10.keep q0
        have q1 := hw10.keep q1
        have hEr := hEr.trans hw10
        clear hw10
        go_wp2_with fail
        as_aux_lemma =>
          clear HLO HLB HRU HLE1 HBU1 HKO HKB HKK
          go_loopw [10, 11, 12] (fun i _ _ wr => ∃ k : Nat, k ≤ n ∧ i = .int .i64 k ∧ Ext wb wr) (fun i _ _ _ => n - (intOf i).toNat)
          case atStart => exact ⟨0, Nat.zero_le _, rfl, hEr⟩
          case round =>
            clear hEr
            obtain ⟨k, hk, rfl, hwr⟩ := hrel
            have q0 := hwr.keep Q0
            have q1 := hwr.keep Q1
            by_cases hlt : k < n
            · have hk1 : k + 1 ≤ n := by omega
              obtain ⟨hval, hsum, ⟨p, hp, hpk, hpick⟩, hbd⟩ := HRF.out k hlt
              have HRK := hide (HRC.out k hk)
              have HHX := hide (HHK.out k hk)
              rw [hval] at HRK
              clear hval
              generalize rouV n vs (elimL n (worF vs) k) = F at HRK hsum hpick hbd
              generalize elimL n (worF vs) k = Ok at HHX hpick
              obtain ⟨b5, o5, e5, d5⟩ := (HRO.out.ext hwr).at_ hpk
              injection e5 with e5
              injection e5 with e5 e6
              subst e5
              subst e6
              have hkc : k ≤ co := by omega
              have HPI := hide hpick
              have HSU : Hid (sgN F n + (k : Int) = V) := hide hsum
              have HBD := hide hbd
              clear hpk hpick hsum hbd
              go_wp2_with fail
              refine wp_region_X (by kernel_rfl) (by kernel_rfl) ?_
              repeat' (refine wpX_stepQ (fun K hK => ?_)
                       go_simp
                       try (rw [if_neg (by intro h; simp [undef] at h)])
                       try split
                       all_goals
                         first
                         | (refine hK _ ?_
                            clear hK K)
                         | (apply Exists.intro
                            refine ⟨fun wq hwq => ?_, hK _ ?_⟩
                            · have hcq := hwq.cellS
                              go_simp
                              first
                              | exact ⟨Ext.refl _, rfl⟩
                            clear hK K))
              refine wpX_stepS rfl (by kernel_rfl) (fun K hK wq hwq => ?_)
              go_simp
              refine (HRK.out _ (hwr.trans (by repeat (first | exact Ext.refl _ | assumption | refine Ext.alloc ?_ _ | refine Ext.drew ?_ | refine Ext.trans ?_ (by assumption))))).mono ?_
              rintro e w9 ⟨v, rfl, hv, hw9⟩
              refine ⟨hw9, hK _ _ ?_⟩
              clear hK K
              obtain ⟨an, cn, rfl, hju, hRn, hju2⟩ := hv.fr
              rw [rowL_len]
              clear hv hju hju2
              repeat' (refine wpX_stepQ (fun K hK => ?_)
                       go_simp
                       try (rw [if_neg (by intro h; simp [undef] at h)])
                       try split
                       all_goals
                         first
                         | (refine hK _ ?_
                            clear hK K)
                         | (apply Exists.intro
                            refine ⟨fun wq hwq => ?_, hK _ ?_⟩
                            · have hcq := hwq.cellS
                              go_simp
                              first
                              | exact ⟨Ext.refl _, rfl⟩
                            clear hK K))
              refine wpX_nil (fun wz hwz => ?_)
              have hEw : Ext wr wz := (by repeat (first | exact Ext.refl _ | assumption | refine Ext.alloc ?_ _ | refine Ext.drew ?_ | refine Ext.trans ?_ (by assumption)))
              have hEz := hwr.trans hEw
              have q0 := hEw.keep q0
              have q1 := hEw.keep q1
              have d5 := hEw.keep d5
              have hRn := hRn.ext hwz
              obtain ⟨wi, hwi⟩ : ∃ wi : World, wi = wz := ⟨_, rfl⟩
              subst hwi
              clear hw9 hwz hEw hwr
              have HSM : Hid (ValC 39 #[.slice an n cn] wi (.int .i64 (sgN F n))) := hide (fun W hW => by
                have h := sum_law W an n cn (rowL n F) (rowL_len _ _).symm (hRn.ext hW) (by rw [rowL_len]; omega) HBD.out
                rw [rowL_sum] at h
                exact h)
              have hRp := rowL_at (f := F) hp
              obtain ⟨b4, o4, rfl, d4⟩ := hRn.at_ hRp
              have HRN := hide hRn
              clear hRn hRp HRK HBD
              generalize sgN F n = S at HSM HSU
              have HY : Hid (IntKind.i64.wrap (S + (k : Int)) = V) := hide (by have := HSU.out; have := HVB.out; rw [IntWalk.i64_in _ (by omega)]; omega)
              have y1 := HY.out
              go_wp2
              refine wp_region_X (by kernel_rfl) (by kernel_rfl) ?_
              repeat' (refine wpX_stepQ (fun K hK => ?_)
                       go_simp
                       try (rw [if_neg (by intro h; simp [undef] at h)])
                       try split
                       all_goals
                         first
                         | (refine hK _ ?_
                            clear hK K)
                         | (apply Exists.intro
                            refine ⟨fun wq hwq => ?_, hK _ ?_⟩
                            · have hcq := hwq.cellS
                              go_simp
                              first
                              | exact ⟨Ext.refl _, rfl⟩
                              | exact ⟨Ext.refl _, HSM.out.at _ (by repeat (first | exact Ext.refl _ | assumption | refine Ext.alloc ?_ _ | refine Ext.drew ?_ | refine Ext.trans ?_ (by assumption)))⟩
                            clear hK K))
              repeat' (refine wpX_stepQ (fun K hK => ?_)
                       go_simp
                       try (rw [if_neg (by intro h; simp [undef] at h)])
                       try split
                       all_goals
                         first
                         | (refine hK _ ?_
                            clear hK K)
                         | (apply Exists.intro
                            refine ⟨fun wq hwq => ?_, hK _ ?_⟩
                            · have hcq := hwq.cellS
                              go_simp
                              first
                              | exact ⟨Ext.refl _, rfl⟩
                              | exact ⟨Ext.refl _, HCO.out.at _ (hEz.trans (by repeat (first | exact Ext.refl _ | assumption | refine Ext.alloc ?_ _ | refine Ext.drew ?_ | refine Ext.trans ?_ (by assumption))))⟩
                            clear hK K))
              refine wpX_nil (fun wz hwz => ?_)
              have D0 := hwz.keep q0
              have D1 := hwz.keep q1
              have D4 := hwz.keep d4
              have D5 := hwz.keep d5
              have HEI2 := hide (hEz.trans hwz)
              have HRN := hide (HRN.out.ext hwz)
              obtain ⟨wj, hwj⟩ : ∃ wj : World, wj = wz := ⟨_, rfl⟩
              subst hwj
              clear q0 q1 d4 d5 hwz hEz y1 HY HSM HSU
              go_wp2_with fail
              go_loopw [12] (fun j wr => ∃ x : Nat, x ≤ n ∧ j = .int .i64 x ∧ Ext wj wr) (fun j _ => n - (intOf j).toNat)
              case atStart => exact ⟨0, Nat.zero_le _, rfl, Ext.refl _⟩
              case round =>
                obtain ⟨x, hx, rfl, hwr⟩ := hrel
                have q0 := hwr.keep D0
                have q1 := hwr.keep D1
                by_cases hxl : x < n
                · have hx1 : x + 1 ≤ n := by omega
                  obtain ⟨b6, o6, e6, d6⟩ := (HRN.out.ext hwr).at_ (rowL_at (f := F) hxl)
                  injection e6 with e6
                  injection e6 with e6 e7
                  subst e6
                  subst e7
                  have d4 := hwr.keep D4
                  have d5 := hwr.keep D5
                  have HX := hide ((HHX.out (x : Int)).at _ (HEI2.out.trans hwr))
                  have HX2 : Hid (∀ W, Ext wr W → Calls Try.prog 17 #[.slice (some ⟨bo, oo, none⟩) k co, .int .i64 x] W fun e w' => e = .returned (.bool (hasI Ok (x : Int))) ∧ Ext W w') := hide (fun W hW => (HHX.out (x : Int)).at W ((HEI2.out.trans hwr).trans hW))
                  have hpx := HPI.out x hxl
                  clear HX
                  cases hh : hasI Ok (x : Int)
                  · have hpx := hpx (fun hm => by rw [hasI_iff.2 hm] at hh; cases hh)
                    rw [hh] at HX2
                    clear hh
                    generalize F x = X at d6 hpx
                    generalize F p = Y at d4 hpx
                    rcases hpx with hlt2 | ⟨heq, hxp⟩
                    · have g1 : ¬ X < Y := by omega
                      have g2 : (X == Y) = false := by rw [beq_eq_false_iff_ne]; omega
                      clear hlt2
                      go_wp2_with fail
                      refine wp_region_X (by kernel_rfl) (by kernel_rfl) ?_
                      repeat' (refine wpX_stepQ (fun K hK => ?_)
                               go_simp
                               try (rw [if_neg (by intro h; simp [undef] at h)])
                               try split
                               all_goals
                                 first
                                 | (refine hK _ ?_
                                    clear hK K)
                                 | (apply Exists.intro
                                    refine ⟨fun wq hwq => ?_, hK _ ?_⟩
                                    · have hcq := hwq.cellS
                                      go_simp
                                      first
                                      | exact ⟨Ext.refl _, rfl⟩
                                      | exact ⟨Ext.refl _, HX2.out _ (by repeat (first | exact Ext.refl _ | assumption | refine Ext.alloc ?_ _ | refine Ext.drew ?_ | refine Ext.trans ?_ (by assumption)))⟩
                                    clear hK K))
                      refine wpX_nil (fun wz hwz => ?_)
                      go_wp2
                      exact ⟨⟨x + 1, hx1, by go_num, hwr.trans hwz⟩, by simp [intOf]; omega⟩
                    · subst heq
                      have g1 : ¬ (p : Int) < (x : Int) := by omega
                      clear hxp
                      go_wp2_with fail
                      refine wp_region_X (by kernel_rfl) (by kernel_rfl) ?_
                      repeat' (refine wpX_stepQ (fun K hK => ?_)
                               go_simp
                               try (rw [if_neg (by intro h; simp [undef] at h)])
                               try split
                               all_goals
                                 first
                                 | (refine hK _ ?_
                                    clear hK K)
                                 | (apply Exists.intro
                                    refine ⟨fun wq hwq => ?_, hK _ ?_⟩
                                    · have hcq := hwq.cellS
                                      go_simp
                                      first
                                      | exact ⟨Ext.refl _, rfl⟩
                                      | exact ⟨Ext.refl _, HX2.out _ (by repeat (first | exact Ext.refl _ | assumption | refine Ext.alloc ?_ _ | refine Ext.drew ?_ | refine Ext.trans ?_ (by assumption)))⟩
                                    clear hK K))
                      refine wpX_nil (fun wz hwz => ?_)
                      go_wp2
                      exact ⟨⟨x + 1, hx1, by go_num, hwr.trans hwz⟩, by simp [intOf]; omega⟩
                  · rw [hh] at HX2
                    clear hh hpx d6 d4 d5
                    go_wp2_with fail
                    refine wp_region_X (by kernel_rfl) (by kernel_rfl) ?_
                    repeat' (refine wpX_stepQ (fun K hK => ?_)
                             go_simp
                             try (rw [if_neg (by intro h; simp [undef] at h)])
                             try split
                             all_goals
                               first
                               | (refine hK _ ?_
                                  clear hK K)
                               | (apply Exists.intro
                                  refine ⟨fun wq hwq => ?_, hK _ ?_⟩
                                  · have hcq := hwq.cellS
                                    go_simp
                                    first
                                    | exact ⟨Ext.refl _, rfl⟩
                                    | exact ⟨Ext.refl _, HX2.out _ (by repeat (first | exact Ext.refl _ | assumption | refine Ext.alloc ?_ _ | refine Ext.drew ?_ | refine Ext.trans ?_ (by assumption)))⟩
                                  clear hK K))
                    refine wpX_nil (fun wz hwz => ?_)
                    go_wp2
                    exact ⟨⟨x + 1, hx1, by go_num, hwr.trans hwz⟩, by simp [intOf]; omega⟩
                · have hw2 := HEI2.out.trans hwr
                  go_wp2
                  exact ⟨⟨k + 1, hk1, by go_num, hw2⟩, by simp [intOf]; omega⟩
            · have hEr := hwr
              have HRZ := hide (HRC.out n (Nat.le_refl _))
              rw [HRE.out] at HRZ
              clear hwr
              go_wp2_with fail
              refine (HLE.out.at _ hEr).mono ?_
              rintro e w9 ⟨rfl, hw9⟩
              have q0 := hw9.keep q0
              have q1 := hw9.keep q1
              have hEr := hEr.trans hw9
              clear hw9
              go_wp2_with fail
              refine (HBU.out.at _ hEr).mono ?_
              rintro e w10 ⟨rfl, hw10⟩
              have q0 := hw10.keep q0
              have q1 := hw10.keep q1
              have hEr := hEr.trans hw10
              clear hw10
              go_wp2_with fail
              refine (HRZ.out _ hEr).mono ?_
              rintro e w11 ⟨v, rfl, hv, hw11⟩
              obtain ⟨an, cn, rfl, hju, hju2, hju3⟩ := hv.fr
              have hw := hw.trans (hEr.trans hw11)
              clear hv hw11 hju hju2 hju3
              go_wp2
              go_ret
              exact ⟨rfl, hw⟩
  · go_enter Try.func8, Try.ntmps8
    go_wp2
    go_ret
    exact ⟨rfl, (by repeat (first | exact Ext.refl _ | assumption | refine Ext.alloc ?_ _ | refine Ext.drew ?_ | refine Ext.trans ?_ (by assumption)))⟩

section
open Go.ChangeShapes Go.WideShapes Go.ChangeAt Go.RowKit Go.Joins Go.Deep
set_option maxRecDepth 100000 in
theorem fnRounds_lifted (os : Os) (started : os.Started) (H : Type) (enc : TypeId × Value → H) :
    ReturnsInHanded {} Try.checked os 8 .any (Rows.fnRoundsSpec.pre6 enc Try.prog Try.f8 Rows.fnRoundsRow.domain false) (Rows.fnRoundsSpec.post enc Try.prog Try.f8 false true false false) := by
  refine returnsInHanded_of_change (C := Try.checked) own started (by kernel_rfl) Try.func8
    (ChangeSpec.witness6 (enc := enc) (C := Try.checked) false ⟨#[], #[.slice Option.none 0 0], []⟩ 8 (by kernel_rfl) (by kernel_rfl) (by kernel_rfl) (by kernel_rfl)) ?_
  intro W base args ds gs before hval0 hW hcnd _
  have hval : ∀ (j : Nat) t v, Try.f8.params[j]? = some t → args[j]? = some v → Value.okWide Try.prog W .any base t v := hval0
  have hW' := hW
  obtain ⟨p, q, hA0, hV, rfl, hfz, hnd⟩ := hW
  have hA : DataW.TrodAll enc Try.prog W 0 (fun _ => true) true Try.f8.params.toList args.toList ds p := hA0
  rw [Try.params8] at hA hval
  obtain ⟨v0, vs0, d0, ds0, p0, q0, hargs, rfl, rfl, h0, r0⟩ := trodAll_cons hA
  obtain ⟨rfl, rfl, rfl⟩ := trodAll_nil r0
  obtain rfl : args = #[v0] := by cases args; simp_all
  obtain ⟨rfl, rfl⟩ := trodVars_none hV
  have k0 := h0
  have lt0 : ∀ x ∈ p0, x.block < W.heap.size := by obtain ⟨m, hm⟩ := k0; exact DataW.trod_lt m _ _ _ hm
  obtain ⟨a0, bs0, c0, rfl, hR0, hl0⟩ := openY (hval 0 22 v0 rfl rfl) h0
  clear hA0 hval0
  refine (rds_law W a0 c0 bs0 hR0 hl0).mono fun e W' ⟨he, bel⟩ => ?_
  subst he
  exact ⟨_, rfl, _, _, _, [], _, [], hW', trodAll_mk1 (shut_bool Try.underlying4 _), (trodAll_cons_mk (Below.trod laidOut (by kernel_rfl) (of_decide_eq_true (by kernel_rfl)) k0 bel lt0) trodAll_mk0), rfl, bel.frame _, fun h => by cases h⟩

set_option maxRecDepth 100000 in
theorem fnRounds_holds : Rows.FnRoundsSaid :=
  OpenClaim.holds_of_wide 8 Try.f8 rfl rfl rfl rfl rfl rfl rfl ⟨rfl, rfl, rfl, rfl, rfl⟩ rfl rfl rfl rfl rfl (by kernel_rfl) Try.func8 (by kernel_rfl)
    (of_decide_eq_true (by kernel_rfl)) (by unfold Func.isWrapper; first | (rw [if_pos (by decide +kernel)]; kernel_rfl) | (rw [if_neg (by decide +kernel)]; exact ⟨rfl, rfl⟩))
    (fun os started H enc _ => fnRounds_lifted os started H enc)
#print axioms fnRounds_holds
end

end Go.Proofs.Ythiojkpoeejkaaa
