/- Whether a ballot may be changed, and the best answer of the spec. -/
import Derived.Test.YtilcdnkkabmbfaaGreatGnP
import Derived.Test.YtilcdnkkabmbfaaGreatWin
import Derived.Test.YtilcdnkkabmbfaaGreatWth3
import Derived.Test.YtilcdnkkabmbfaaGreatCk16
namespace Go.Proofs.YtilcdnkkabmbfaaGreat
open Go.RowKit

set_option maxRecDepth 100000 in
set_option maxHeartbeats 2000000 in
theorem ply_impl (w : World) (rule sz : Int) (a : Option Addr) (c : Nat) (vs : List Vt) (hR : RdV w a vs) :
    Calls Tryz.prog 163 #[.int .i64 rule, .agg #[.int .i64 sz, .slice a vs.length c]] w fun e w' => e = .returned (.bool (plyB rule sz vs)) ∧ Ext w w' := by
  have q0 := new0 w (.int .i64 sz) [.slice a vs.length c] 29
  have q1 := new1 w (.int .i64 sz) (.slice a vs.length c) [] 29
  have HV : Hid (plyB rule sz vs = (profOk sz vs && (decide (sz ≤ 4) && inR rule 1 13))) := rfl
  cases h0 : profOk sz vs <;> by_cases h4 : sz ≤ 4 <;> cases h1 : inR rule 1 13
  all_goals
    rw [h0, h1] at HV
    go_enter Tryz.func163, Tryz.ntmps163
    go_wp2_with (first | (go_at_call 36; refine (prof_impl _ _ _ _ _ (hR.ext (by repeat (first | exact Ext.refl _ | assumption | refine Ext.alloc ?_ _ | refine Ext.drew ?_ | refine Ext.trans ?_ (by assumption))))).mono ?_; rintro e w1 ⟨rfl, hw1⟩; have q0 := Ext.keep (w' := w1) (by repeat (first | exact Ext.refl _ | assumption | refine Ext.alloc ?_ _ | refine Ext.drew ?_ | refine Ext.trans ?_ (by assumption))) q0; have q1 := Ext.keep (w' := w1) (by repeat (first | exact Ext.refl _ | assumption | refine Ext.alloc ?_ _ | refine Ext.drew ?_ | refine Ext.trans ?_ (by assumption))) q1) | (go_at_call 63; refine (in_impl _ _ _ _).mono ?_; rintro e w1 ⟨rfl, hw1⟩; have q0 := Ext.keep (w' := w1) (by repeat (first | exact Ext.refl _ | assumption | refine Ext.alloc ?_ _ | refine Ext.drew ?_ | refine Ext.trans ?_ (by assumption))) q0; have q1 := Ext.keep (w' := w1) (by repeat (first | exact Ext.refl _ | assumption | refine Ext.alloc ?_ _ | refine Ext.drew ?_ | refine Ext.trans ?_ (by assumption))) q1))
    go_ret
    exact ⟨ret_bool (by rw [HV.out]; simp [h4]), (by repeat (first | exact Ext.refl _ | assumption | refine Ext.alloc ?_ _ | refine Ext.drew ?_ | refine Ext.trans ?_ (by assumption)))⟩

set_option maxRecDepth 100000 in
set_option maxHeartbeats 2000000 in
theorem ply_spec (w : World) (rule sz : Int) (a : Option Addr) (c : Nat) (vs : List Vt) (hR : RdV w a vs) :
    Calls Tryz.prog 68 #[.int .i64 rule, .agg #[.int .i64 sz, .slice a vs.length c]] w fun e w' => e = .returned (.bool (plyB rule sz vs)) ∧ Ext w w' := by
  have q0 := new0 w (.int .i64 sz) [.slice a vs.length c] 29
  have q1 := new1 w (.int .i64 sz) (.slice a vs.length c) [] 29
  have HV : Hid (plyB rule sz vs = (profOk sz vs && (decide (sz ≤ 4) && inR rule 1 13))) := rfl
  cases h0 : profOk sz vs <;> by_cases h4 : sz ≤ 4 <;> cases h1 : inR rule 1 13
  all_goals
    rw [h0, h1] at HV
    go_enter Tryz.func68, Tryz.ntmps68
    go_wp2_with (first | (go_at_call 127; refine (prof_spec _ _ _ _ _ (hR.ext (by repeat (first | exact Ext.refl _ | assumption | refine Ext.alloc ?_ _ | refine Ext.drew ?_ | refine Ext.trans ?_ (by assumption))))).mono ?_; rintro e w1 ⟨rfl, hw1⟩; have q0 := Ext.keep (w' := w1) (by repeat (first | exact Ext.refl _ | assumption | refine Ext.alloc ?_ _ | refine Ext.drew ?_ | refine Ext.trans ?_ (by assumption))) q0; have q1 := Ext.keep (w' := w1) (by repeat (first | exact Ext.refl _ | assumption | refine Ext.alloc ?_ _ | refine Ext.drew ?_ | refine Ext.trans ?_ (by assumption))) q1) | (go_at_call 69; refine (in_spec _ _ _ _).mono ?_; rintro e w1 ⟨rfl, hw1⟩; have q0 := Ext.keep (w' := w1) (by repeat (first | exact Ext.refl _ | assumption | refine Ext.alloc ?_ _ | refine Ext.drew ?_ | refine Ext.trans ?_ (by assumption))) q0; have q1 := Ext.keep (w' := w1) (by repeat (first | exact Ext.refl _ | assumption | refine Ext.alloc ?_ _ | refine Ext.drew ?_ | refine Ext.trans ?_ (by assumption))) q1))
    go_ret
    exact ⟨ret_bool (by rw [HV.out]; simp [h4]), (by repeat (first | exact Ext.refl _ | assumption | refine Ext.alloc ?_ _ | refine Ext.drew ?_ | refine Ext.trans ?_ (by assumption)))⟩
set_option maxRecDepth 100000 in
theorem ply_ok {rule sz : Int} {vs : List Vt} (h : plyB rule sz vs = true) : profOk sz vs = true ∧ sz ≤ 4 ∧ 1 ≤ rule ∧ rule ≤ 13 := by
  unfold plyB at h
  simp only [Bool.and_eq_true, decide_eq_true_eq] at h
  exact ⟨h.1, h.2.1, inR_iff.1 h.2.2⟩

set_option maxRecDepth 100000 in
set_option maxHeartbeats 2000000 in
theorem gn_impl (w : World) (rule sz k : Int) (a : Option Addr) (c : Nat) (vs : List Vt) (hR : RdV w a vs) :
    Calls Tryz.prog 133 #[.int .i64 rule, .agg #[.int .i64 sz, .slice a vs.length c], .int .i64 k] w fun e w' => e = .returned (.bool (gnB rule sz vs k)) ∧ Ext w w' := by
  have q0 := new0 w (.int .i64 sz) [.slice a vs.length c] 29
  have q1 := new1 w (.int .i64 sz) (.slice a vs.length c) [] 29
  have HV : Hid (gnB rule sz vs k = (plyB rule sz vs && inR k 0 ((vs.length : Int) - 1))) := rfl
  have HP : Hid (∀ w', Ext w w' → Calls Tryz.prog 163 #[.int .i64 rule, .agg #[.int .i64 sz, .slice a vs.length c]] w' fun e w'' => e = .returned (.bool (plyB rule sz vs)) ∧ Ext w' w'') := fun w' hw' => ply_impl w' rule sz a c vs (hR.ext hw')
  cases hp : plyB rule sz vs
  · rw [hp] at HP HV
    clear hp
    go_enter Tryz.func133, Tryz.ntmps133
    go_wp2_with (go_at_call 163; refine (HP.out _ (by repeat (first | exact Ext.refl _ | assumption | refine Ext.alloc ?_ _ | refine Ext.drew ?_ | refine Ext.trans ?_ (by assumption)))).mono ?_; rintro e w1 ⟨rfl, hw1⟩; have q0 := Ext.keep (w' := w1) (by repeat (first | exact Ext.refl _ | assumption | refine Ext.alloc ?_ _ | refine Ext.drew ?_ | refine Ext.trans ?_ (by assumption))) q0; have q1 := Ext.keep (w' := w1) (by repeat (first | exact Ext.refl _ | assumption | refine Ext.alloc ?_ _ | refine Ext.drew ?_ | refine Ext.trans ?_ (by assumption))) q1)
    go_ret
    exact ⟨ret_bool (by rw [HV.out]; rfl), (by repeat (first | exact Ext.refl _ | assumption | refine Ext.alloc ?_ _ | refine Ext.drew ?_ | refine Ext.trans ?_ (by assumption)))⟩
  · have hvl := (prof_small (ply_ok hp).1).1
    rw [hp] at HP HV
    have HY : Hid (wrap64 ((vs.length : Int) - 1) = (vs.length : Int) - 1) := IntWalk.wrap64_in _ (by omega)
    clear hp
    go_enter Tryz.func133, Tryz.ntmps133
    have y0 := HY.out
    go_wp2_with (first | (go_at_call 163; refine (HP.out _ (by repeat (first | exact Ext.refl _ | assumption | refine Ext.alloc ?_ _ | refine Ext.drew ?_ | refine Ext.trans ?_ (by assumption)))).mono ?_; rintro e w1 ⟨rfl, hw1⟩; have q0 := Ext.keep (w' := w1) (by repeat (first | exact Ext.refl _ | assumption | refine Ext.alloc ?_ _ | refine Ext.drew ?_ | refine Ext.trans ?_ (by assumption))) q0; have q1 := Ext.keep (w' := w1) (by repeat (first | exact Ext.refl _ | assumption | refine Ext.alloc ?_ _ | refine Ext.drew ?_ | refine Ext.trans ?_ (by assumption))) q1) | (go_at_call 63; refine (in_impl _ _ _ _).mono ?_; rintro e w1 ⟨rfl, hw1⟩; have q0 := Ext.keep (w' := w1) (by repeat (first | exact Ext.refl _ | assumption | refine Ext.alloc ?_ _ | refine Ext.drew ?_ | refine Ext.trans ?_ (by assumption))) q0; have q1 := Ext.keep (w' := w1) (by repeat (first | exact Ext.refl _ | assumption | refine Ext.alloc ?_ _ | refine Ext.drew ?_ | refine Ext.trans ?_ (by assumption))) q1))
    go_ret
    exact ⟨ret_bool (by rw [HV.out]; simp), (by repeat (first | exact Ext.refl _ | assumption | refine Ext.alloc ?_ _ | refine Ext.drew ?_ | refine Ext.trans ?_ (by assumption)))⟩

set_option maxRecDepth 100000 in
set_option maxHeartbeats 8000000 in
theorem rep_spec (w : World) (rule : Int) (n : Nat) (a ar : Option Addr) (c cr k : Nat) (vs : List Vt) (x : Vt) (truth : List Int) (hx : vs[k]? = some x) (hR : RdV w a vs) (hRt : RdI w ar truth) (htl : truth.length ≤ 5) (h0 : profOk n vs = true) :
    Calls Tryz.prog 70 #[.int .i64 rule, .agg #[.int .i64 n, .slice a vs.length c], .int .i64 k, .slice ar truth.length cr] w fun e w' => ∃ v, e = .returned (.tuple #[v, .int .i64 (repO (gnW rule n vs k) truth n).2]) ∧ OwnI w' w.heap.size v (repO (gnW rule n vs k) truth n).1 ∧ Ext w w' := by
  have hsz := prof_size h0
  have n1 : 1 ≤ n := by omega
  have n2 : n ≤ 5 := by omega
  have q0 := new0 w (.int .i64 n) [.slice a vs.length c] 29
  have q1 := new1 w (.int .i64 n) (.slice a vs.length c) [] 29
  have hw := Ext.new w (.cells #[.int .i64 n, .slice a vs.length c] 29)
  have HWR : Hid (∀ w' ar cr r, Ext w w' → RdI w' ar r → rkOk n r = true → Calls Tryz.prog 129 #[.agg #[.int .i64 n, .slice a vs.length c], .int .i64 k, .slice ar r.length cr] w' fun e w'' => ∃ a' c', e = .returned (.tuple #[.agg #[.int .i64 n, .slice a' vs.length c'], .bool true]) ∧ RdV w'' a' (vs.set k (r, x.2)) ∧ Ext w' w'') := fun w' ar cr r hw' hRr hr => withR_spec w' n a ar c cr k vs r x hx (hR.ext hw') hRr h0 hr
  obtain ⟨W, hW⟩ : ∃ W, W = gnW rule n vs k := ⟨_, rfl⟩
  have HWI : Hid (∀ w' a3 c3 r, RdV w' a3 (vs.set k (r, x.2)) → Calls Tryz.prog 72 #[.int .i64 rule, .agg #[.int .i64 n, .slice a3 vs.length c3]] w' fun e w'' => e = .returned (.int .i64 (W r)) ∧ Ext w' w'') := fun w' a3 c3 r hR3 => by
    have h := winb_spec w' rule n a3 c3 _ hR3
    rw [List.length_set] at h
    rw [hW, show gnW rule n vs k r = winB rule n (vs.set k (r, x.2)) by unfold gnW; rw [show vs.getD k ([], 0) = x by simp [List.getD, hx]]]
    exact h
  have HPF : Hid (∀ w' u v, Ext w w' → Calls Tryz.prog 71 #[.slice ar truth.length cr, .int .i64 u, .int .i64 v] w' fun e w'' => e = .returned (.bool (prefB truth u v)) ∧ Ext w' w'') := fun w' u v hw' => pref_spec w' ar cr truth u v (hRt.ext hw') (by omega)
  rw [← hW]
  have hs0 : (w.alloc (.cells #[.int .i64 n, .slice a vs.length c] 29)).heap.size = w.heap.size + 1 := by simp
  clear hW h0 hx
  go_enter Tryz.func70, Tryz.ntmps70
  go_wp2_with fail
  rw [← hs0]
  clear hs0
  generalize w.alloc (.cells #[.int .i64 n, .slice a vs.length c] 29) = wb at hw q0 q1 ⊢
  have hO := OwnI.made0 wb
  have hE := Ext.new wb (.cells #[] 3)
  generalize wb.alloc (.cells #[] 3) = W0 at hO hE ⊢
  have q0 := hE.keep q0
  have q1 := hE.keep q1
  go_wp2_with fail
  refine (allR_spec _ n n1 n2).mono ?_
  rintro e w3 ⟨v, rfl, hv, hw3⟩
  have hO3 := hO.ext hw3
  have hE3 : Ext wb w3 := hE.trans hw3
  have Q0 := hw3.keep q0
  have Q1 := hw3.keep q1
  have HM : Hid (∀ r ∈ allO n, rkOk n r = true) := fun r hr => (allO_mem n1 n2).1 hr
  have HL : Hid (repO W truth n = repT W truth (allO n) (allO n).length) := rfl
  have hrl : (allO n).length ≤ 3125 := Nat.le_trans (allS_len n2 n []) (Nat.pow_le_pow_right (n := 5) (by decide) n2)
  have hwb2 : wb.heap.size ≤ W0.heap.size := hE.size
  generalize allO n = rows at hv HM HL hrl
  have hv := hv.wr
  have hv' := hv
  obtain ⟨av, cv, rfl, hcv, hju⟩ := hv'
  clear hju hO
  obtain ⟨wc, hwc⟩ : ∃ wc : World, wc = w3 := ⟨_, rfl⟩
  subst hwc
  have hS0 : OwnI wc wb.heap.size (.slice (some ⟨wb.heap.size, 0, none⟩) 0 0) (repT W truth rows 0).1 := hO3
  clear hO3
  go_wp2_with fail
  go_loopw [10, 11, 13, 14, 15, 16, 22] (fun v l _ _ _ _ i wr => ∃ m : Nat, m ≤ rows.length ∧ i = .int .i64 m ∧ l = .int .i64 (repT W truth rows m).2 ∧ OwnI wr wb.heap.size v (repT W truth rows m).1 ∧ Ext wc wr) (fun _ _ _ _ _ _ i _ => rows.length - (intOf i).toNat)
  case atStart => exact ⟨0, Nat.zero_le _, rfl, rfl, hS0, Ext.refl _⟩
  case round =>
    clear hS0
    obtain ⟨m, hm, rfl, rfl, hown, hwr⟩ := hrel
    by_cases hmt : m < rows.length
    · obtain ⟨r, hr⟩ := at_of_lt hmt
      obtain ⟨g2, c3, a3, c4, hav, d0, hc4, hO⟩ := (hv.ext hwr).own hr
      injection hav with hav hav2 hav3
      subst hav
      subst hav3
      clear hav2
      have hrk := HM.out r (List.mem_of_getElem? hr)
      have HR := hide hr
      have HOr := hide (hO.base hwb2)
      have hEr : Ext w wr := hw.trans (hE3.trans hwr)
      have HWRr := hide (HWR.out wr a3 c4 r hEr hO.rdI hrk)
      have q0 := hwr.keep Q0
      have q1 := hwr.keep Q1
      have hm1 : m + 1 ≤ rows.length := by omega
      have HOW := hide hown
      clear hr hrk hO hown
      go_wp2_with fail
      refine HWRr.out.mono ?_
      rintro e w4 ⟨a4, c6, rfl, hR4, hw4⟩
      have hE5 := Ext.new w4 (.cells #[.int .i64 n, .slice a4 vs.length c6] 29)
      have HWJ := hide (HWI.out (w4.alloc (.cells #[.int .i64 n, .slice a4 vs.length c6] 29)) a4 c6 r (hR4.ext hE5))
      clear hR4 HWRr
      obtain ⟨cur, hcur⟩ : ∃ cur, cur = (repT W truth rows m).2 := ⟨_, rfl⟩
      obtain ⟨y, hy⟩ : ∃ y, y = W r := ⟨_, rfl⟩
      rw [← hy] at HWJ
      rw [← hcur]
      have HCU := hide hcur
      have HYE := hide hy
      clear hcur hy
      have hEw4 : Ext wr (w4.alloc (.cells #[.int .i64 n, .slice a4 vs.length c6] 29)) := hw4.trans hE5
      by_cases hneg : cur < 0
      · have HT : Hid (repT W truth rows (m + 1) = (r, y)) := hide (by rw [repT_new HR.out (.inl (by rw [← HCU.out]; exact hneg)), HYE.out])
        go_wp2_with fail
        refine HWJ.out.mono ?_
        rintro e w5 ⟨rfl, hw5⟩
        go_wp2
        have hE6 := hEw4.trans hw5
        exact ⟨⟨m + 1, hm1, by go_num, by rw [HT.out], by rw [HT.out]; exact HOr.out.ext hE6, hwr.trans hE6⟩, by simp [intOf]; omega⟩
      · cases hp : prefB truth y cur
        · have HT : Hid (repT W truth rows (m + 1) = repT W truth rows m) := hide (repT_old HR.out (by
            rw [← HCU.out, ← HYE.out, hp]
            rintro (h | h)
            · exact hneg h
            · cases h))
          go_wp2_with fail
          refine HWJ.out.mono ?_
          rintro e w5 ⟨rfl, hw5⟩
          have hE6 := hEw4.trans hw5
          have HP := HPF.out w5 y cur (hEr.trans hE6)
          rw [hp] at HP
          have HP := hide HP
          go_wp2_with fail
          refine HP.out.mono ?_
          rintro e w6 ⟨rfl, hw6⟩
          go_wp2
          exact ⟨⟨m + 1, hm1, by go_num, by rw [HT.out, ← HCU.out], by rw [HT.out]; exact HOW.out.ext (hE6.trans hw6), hwr.trans (hE6.trans hw6)⟩, by simp [intOf]; omega⟩
        · have HT : Hid (repT W truth rows (m + 1) = (r, y)) := hide (by rw [repT_new HR.out (.inr (by rw [← HCU.out, ← HYE.out]; exact hp)), HYE.out])
          go_wp2_with fail
          refine HWJ.out.mono ?_
          rintro e w5 ⟨rfl, hw5⟩
          have hE6 := hEw4.trans hw5
          have HP := HPF.out w5 y cur (hEr.trans hE6)
          rw [hp] at HP
          have HP := hide HP
          go_wp2_with fail
          refine HP.out.mono ?_
          rintro e w6 ⟨rfl, hw6⟩
          go_wp2
          exact ⟨⟨m + 1, hm1, by go_num, by rw [HT.out], by rw [HT.out]; exact HOr.out.ext (hE6.trans hw6), hwr.trans (hE6.trans hw6)⟩, by simp [intOf]; omega⟩
    · have hmn : m = rows.length := by omega
      have HE : Hid (repO W truth n = repT W truth rows m) := hide (by rw [HL.out, hmn])
      have hws := hw.size
      clear hmn
      go_wp2
      go_ret2
      exact ⟨_, (by rw [HE.out]; rfl), by rw [HE.out]; exact hown.base hws, hw.trans (hE3.trans hwr)⟩

end Go.Proofs.YtilcdnkkabmbfaaGreat
