/- The first ranking with the least cost, of the program. -/
import Derived.Test.YtacmabdeocmheaaMjI
import Derived.Test.YtacmabdeocmheaaKemP
import Derived.Lib.BufferMore
namespace Go.Proofs.Ytacmabdeocmheaa
open Go.RowKit

set_option maxRecDepth 100000 in
set_option maxHeartbeats 4000000 in
theorem least_impl (K : Nat) (fst cap : Array Value) (cost : List Int → Int) (w : World) (n : Nat) (a : Option Addr) (c : Nat) (vs : List Vt) (hR : RdV w a vs) (h0 : profOk n vs = true) (n1 : 1 ≤ n) (n2 : n ≤ 5) (hK : Enters Try.prog K)
    (hf : ∀ (r : List Int) (a' : Option Addr) (c' : Nat) (w' : World), rkOk n r = true → r.length ≤ c' → RdI w' a' r → Ext w w' → Calls Try.prog K (fst.push (.slice a' r.length c') ++ cap) w' fun e w'' => e = .returned (.int .i64 (cost r)) ∧ Ext w' w'') :
    Calls Try.prog 135 #[.agg #[.int .i64 n, .slice a vs.length c], .func (.func K) fst cap] w fun e w' => ∃ v, e = .returned (.tuple #[v, .int .i64 (lstR cost n).2.1, .int .i64 ((lstR cost n).2.2 : Nat)]) ∧ OwnI w' w.heap.size v (lstR cost n).1 ∧ Ext w w' := by
  unfold Enters at hK
  have HF := hide hf
  clear hf
  have q0 := new0 w (.int .i64 n) [.slice a vs.length c] 43
  have q1 := new1 w (.int .i64 n) (.slice a vs.length c) [] 43
  have hnil : ∀ (W : World) (a : Addr) (n c : Nat), (binOp .eql 50 (.slice (some a) n c) (.slice none 0 0)).run Try.prog W = .ok (.bool false) W := fun W a n c => Lib.run_eql_slice_some_nil W a n c Try.underlying50
  have hnn : ∀ (W : World), (binOp .eql 50 (.slice none 0 0) (.slice none 0 0)).run Try.prog W = .ok (.bool true) W := fun W => Lib.run_eql_slice_nil_nil W 0 0 Try.underlying50
  go_enter Try.func135, Try.ntmps135
  go_wp2_with (go_at_call 63; refine (prof_impl _ _ _ _ _ (hR.ext (by repeat (first | exact Ext.refl _ | assumption | refine Ext.alloc ?_ _ | refine Ext.drew ?_ | refine Ext.trans ?_ (by assumption))))).mono ?_; rintro e w1 ⟨rfl, hw1⟩; have q0 := Ext.keep (w' := w1) (by repeat (first | exact Ext.refl _ | assumption | refine Ext.alloc ?_ _ | refine Ext.drew ?_ | refine Ext.trans ?_ (by assumption))) q0; have q1 := Ext.keep (w' := w1) (by repeat (first | exact Ext.refl _ | assumption | refine Ext.alloc ?_ _ | refine Ext.drew ?_ | refine Ext.trans ?_ (by assumption))) q1)
  refine (allR_impl _ n n1 n2).mono ?_
  rintro e w2 ⟨v, rfl, hv, hw2⟩
  have hw : Ext w w2 := (by repeat (first | exact Ext.refl _ | assumption | refine Ext.alloc ?_ _ | refine Ext.drew ?_ | refine Ext.trans ?_ (by assumption)))
  have hlow : w.heap.size ≤ w1.heap.size := Ext.size (by repeat (first | exact Ext.refl _ | assumption | refine Ext.alloc ?_ _ | refine Ext.drew ?_ | refine Ext.trans ?_ (by assumption)))
  have HM : Hid (∀ r ∈ allO n, rkOk n r = true) := fun r hr => (allO_mem n1 n2).1 hr
  have HL : Hid (lstR cost n = lstT cost (allO n) (allO n).length) := rfl
  have hrl : (allO n).length ≤ 3125 := Nat.le_trans (allS_len n2 n []) (Nat.pow_le_pow_right (n := 5) (by decide) n2)
  have hrp := allO_pos n1 n2
  generalize allO n = rows at hv HM HL hrl hrp
  have hv := hv.wr
  have hv' := hv
  obtain ⟨av, cv, rfl, hcv, hju⟩ := hv'
  clear hju hw1 hw2 q0 q1 h0
  obtain ⟨wb, hwb⟩ : ∃ wb : World, wb = w2 := ⟨_, rfl⟩
  subst hwb
  go_wp2_with fail
  go_loopw [7, 8, 9, 11, 12, 20, 27, 37] (fun v l m _ _ i _ _ wr => ∃ k : Nat, k ≤ rows.length ∧ i = .int .i64 k ∧ l = .int .i64 (lstT cost rows k).2.1 ∧ m = .int .i64 ((lstT cost rows k).2.2 : Nat) ∧ Hid ((k = 0 → v = .slice none 0 0) ∧ (1 ≤ k → OwnI wr w.heap.size v (lstT cost rows k).1)) ∧ Ext wb wr) (fun _ _ _ _ _ i _ _ _ => rows.length - (intOf i).toNat)
  case atStart => exact ⟨0, Nat.zero_le _, rfl, rfl, rfl, ⟨fun _ => rfl, fun h => absurd h (by omega)⟩, Ext.refl _⟩
  case round =>
    obtain ⟨k, hk, rfl, rfl, rfl, hb, hwr⟩ := hrel
    by_cases hkt : k < rows.length
    · obtain ⟨r, hr⟩ := at_of_lt hkt
      obtain ⟨g, c3, a3, c4, hav, d0, hc4, hO⟩ := (hv.ext hwr).own hr
      injection hav with hav hav2 hav3
      subst hav
      subst hav3
      clear hav2
      have hrk := HM.out r (List.mem_of_getElem? hr)
      have HOb := hide (hO.base hlow)
      have HC := hide (fun w' (hw' : Ext wr w') => HF.out r a3 c4 w' hrk hc4 (hO.rdI.ext hw') ((hw.trans hwr).trans hw'))
      have HR := hide hr
      have hcn := lstT_cnt (cost := cost) (xss := rows) k
      have y1 : wrap64 (((lstT cost rows k).2.2 : Int) + 1) = ((lstT cost rows k).2.2 : Int) + 1 := IntWalk.wrap64_in _ (by omega)
      clear hr hrk hO
      by_cases hk0 : k = 0
      · have HT := hide (lstT_new (cost := cost) HR.out (.inl hk0))
        have hu := hb.out.1 hk0
        subst hu
        clear hk0 y1
        go_wp2_with fail
        refine (HC.out _ (by repeat (first | exact Ext.refl _ | assumption | refine Ext.alloc ?_ _ | refine Ext.drew ?_ | refine Ext.trans ?_ (by assumption)))).mono ?_
        rintro e w3 ⟨rfl, hw3⟩
        go_wp2
        exact ⟨⟨k + 1, by omega, by go_num, by rw [HT.out], by rw [HT.out]; rfl, hide ⟨fun h => absurd h (by omega), fun _ => by rw [HT.out]; exact HOb.out.ext hw3⟩, hwr.trans hw3⟩, by simp [intOf]; omega⟩
      · have hbo := hb.out.2 (by omega)
        have hmem := lstT_mem (cost := cost) (xss := rows) k (by omega) hk
        obtain ⟨a7, c7, rfl, _, _, hR7, ho7⟩ := hbo.val
        have hlb := (rk_len (HM.out _ hmem.1)).1
        obtain ⟨g7, hg7, _⟩ := ho7 (fun e => by rw [e] at hlb; simp at hlb; omega)
        subst hg7
        have HBO := hide hbo
        have HK0 := hide hk0
        have hcr := hc4
        clear hR7 ho7 hmem hbo hk0 hlb hcr hb
        rcases (show cost r < (lstT cost rows k).2.1 ∨ cost r = (lstT cost rows k).2.1 ∨ (lstT cost rows k).2.1 < cost r by omega) with hlt | heq | hgt
        · have HT := hide (lstT_new (cost := cost) HR.out (.inr hlt))
          go_wp2_with fail
          refine (HC.out _ (by repeat (first | exact Ext.refl _ | assumption | refine Ext.alloc ?_ _ | refine Ext.drew ?_ | refine Ext.trans ?_ (by assumption)))).mono ?_
          rintro e w3 ⟨rfl, hw3⟩
          go_wp2
          exact ⟨⟨k + 1, by omega, by go_num, by rw [HT.out], by rw [HT.out]; rfl, hide ⟨fun h => absurd h (by omega), fun _ => by rw [HT.out]; exact HOb.out.ext hw3⟩, hwr.trans hw3⟩, by simp [intOf]; omega⟩
        · have HT := hide (lstT_tie (cost := cost) HR.out HK0.out heq)
          have t1 : ¬ cost r < (lstT cost rows k).2.1 := by omega
          have t2 : (cost r == (lstT cost rows k).2.1) = true := by rw [beq_iff_eq]; exact heq
          have HQ := hide heq
          clear heq
          go_wp2_with fail
          refine (HC.out _ (by repeat (first | exact Ext.refl _ | assumption | refine Ext.alloc ?_ _ | refine Ext.drew ?_ | refine Ext.trans ?_ (by assumption)))).mono ?_
          rintro e w3 ⟨rfl, hw3⟩
          go_wp2
          exact ⟨⟨k + 1, by omega, by go_num, by rw [HT.out], by rw [HT.out]; exact congrArg (Value.int .i64) (by simp), hide ⟨fun h => absurd h (by omega), fun _ => by rw [HT.out]; exact HBO.out.ext hw3⟩, hwr.trans hw3⟩, by simp [intOf]; omega⟩
        · have HT := hide (lstT_old (cost := cost) HR.out HK0.out hgt)
          have t1 : ¬ cost r < (lstT cost rows k).2.1 := by omega
          have t2 : (cost r == (lstT cost rows k).2.1) = false := by rw [beq_eq_false_iff_ne]; omega
          go_wp2_with fail
          refine (HC.out _ (by repeat (first | exact Ext.refl _ | assumption | refine Ext.alloc ?_ _ | refine Ext.drew ?_ | refine Ext.trans ?_ (by assumption)))).mono ?_
          rintro e w3 ⟨rfl, hw3⟩
          go_wp2
          exact ⟨⟨k + 1, by omega, by go_num, by rw [HT.out], by rw [HT.out], hide ⟨fun h => absurd h (by omega), fun _ => by rw [HT.out]; exact HBO.out.ext hw3⟩, hwr.trans hw3⟩, by simp [intOf]; omega⟩
    · have hkn : k = rows.length := by omega
      have HE : Hid (lstR cost n = lstT cost rows k) := hide (by rw [HL.out, hkn])
      have hbo := hide (hb.out.2 (by omega))
      clear hkn hb
      go_wp2
      go_ret3
      refine ⟨_, (by rw [HE.out]; rfl), ?_, hw.trans hwr⟩
      rw [HE.out]
      exact hbo.out

end Go.Proofs.Ytacmabdeocmheaa
