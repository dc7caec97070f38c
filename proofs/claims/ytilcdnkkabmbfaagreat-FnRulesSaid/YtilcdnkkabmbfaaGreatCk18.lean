/- The ranking in which each candidate beats all behind it, of the program. The first ranking with the least cost, of the program. The distance of a ranking by swaps, of the program, and the first ranking with the least one. slices' insertion sort with a function, over lists of integers. -/
import Derived.Test.YtilcdnkkabmbfaaGreatCk17
import Derived.Test.YtilcdnkkabmbfaaGreatCk8
import Derived.Lib.BufferMore
import Derived.Test.YtilcdnkkabmbfaaGreatCk12
namespace Go.Proofs.YtilcdnkkabmbfaaGreat
open Go.RowKit

/-- The ranking, and whether there is one. -/
def mjL (sz : Int) (vs : List Vt) : List Int := if profOk sz vs then (mjO sz.toNat vs).getD [] else []
def mjB (sz : Int) (vs : List Vt) : Bool := if profOk sz vs then (mjO sz.toNat vs).isSome else false
set_option maxRecDepth 100000 in
theorem WrSS.own {w : World} {B : Nat} {v : Value} {xss : List (List Int)} (h : WrSS w B v xss) {k : Nat} {xs : List Int} (hx : xss[k]? = some xs) :
    ∃ g c a' c', v = .slice (some ⟨g, 0, none⟩) xss.length c ∧ w.cell? ⟨g, k, none⟩ = some (.slice a' xs.length c') ∧ xs.length ≤ c' ∧ OwnI w B (.slice a' xs.length c') xs := by
  obtain ⟨a, c, hv, hc, ho⟩ := h
  obtain ⟨g, us, rfl, hM⟩ := ho (ne_of_at hx)
  have h1 := hM.row k (lt_of_at hx)
  simp only [List.getD, hx, Option.getD_some] at h1
  obtain ⟨a', c', hu, hc', _, hR, _⟩ := h1.val
  refine ⟨g, c, a', c', hv, by rw [hM.outer.cell k (lt_of_at hx), hu], hc', ?_⟩
  rw [← hu]; exact h1

set_option maxRecDepth 100000 in
set_option maxHeartbeats 4000000 in
theorem least_impl (K : Nat) (fst cap : Array Value) (cost : List Int → Int) (w : World) (n : Nat) (a : Option Addr) (c : Nat) (vs : List Vt) (hR : RdV w a vs) (h0 : profOk n vs = true) (n1 : 1 ≤ n) (n2 : n ≤ 5) (hK : Enters Tryz.prog K)
    (hf : ∀ (r : List Int) (a' : Option Addr) (c' : Nat) (w' : World), rkOk n r = true → r.length ≤ c' → RdI w' a' r → Ext w w' → Calls Tryz.prog K (fst.push (.slice a' r.length c') ++ cap) w' fun e w'' => e = .returned (.int .i64 (cost r)) ∧ Ext w' w'') :
    Calls Tryz.prog 113 #[.agg #[.int .i64 n, .slice a vs.length c], .func (.func K) fst cap] w fun e w' => ∃ v, e = .returned (.tuple #[v, .int .i64 (lstR cost n).2.1, .int .i64 ((lstR cost n).2.2 : Nat)]) ∧ OwnI w' w.heap.size v (lstR cost n).1 ∧ Ext w w' := by
  unfold Enters at hK
  have HF := hide hf
  clear hf
  have q0 := new0 w (.int .i64 n) [.slice a vs.length c] 29
  have q1 := new1 w (.int .i64 n) (.slice a vs.length c) [] 29
  have hnil : ∀ (W : World) (a : Addr) (n c : Nat), (binOp .eql 36 (.slice (some a) n c) (.slice none 0 0)).run Tryz.prog W = .ok (.bool false) W := fun W a n c => Lib.run_eql_slice_some_nil W a n c Tryz.underlying36
  have hnn : ∀ (W : World), (binOp .eql 36 (.slice none 0 0) (.slice none 0 0)).run Tryz.prog W = .ok (.bool true) W := fun W => Lib.run_eql_slice_nil_nil W 0 0 Tryz.underlying36
  go_enter Tryz.func113, Tryz.ntmps113
  go_wp2_with (go_at_call 36; refine (prof_impl _ _ _ _ _ (hR.ext (by repeat (first | exact Ext.refl _ | assumption | refine Ext.alloc ?_ _ | refine Ext.drew ?_ | refine Ext.trans ?_ (by assumption))))).mono ?_; rintro e w1 ⟨rfl, hw1⟩; have q0 := Ext.keep (w' := w1) (by repeat (first | exact Ext.refl _ | assumption | refine Ext.alloc ?_ _ | refine Ext.drew ?_ | refine Ext.trans ?_ (by assumption))) q0; have q1 := Ext.keep (w' := w1) (by repeat (first | exact Ext.refl _ | assumption | refine Ext.alloc ?_ _ | refine Ext.drew ?_ | refine Ext.trans ?_ (by assumption))) q1)
  refine (allR_impl _ n n1 n2).mono ?_
  rintro e w2 ⟨v, rfl, hv, hw2⟩
  have hw : Ext w w2 := (by repeat (first | exact Ext.refl _ | assumption | refine Ext.alloc ?_ _ | refine Ext.drew ?_ | refine Ext.trans ?_ (by assumption)))
  have hlow : w.heap.size ≤ w1.heap.size := Ext.size (by repeat (first | exact Ext.refl _ | assumption | refine Ext.alloc ?_ _ | refine Ext.drew ?_ | refine Ext.trans ?_ (by assumption)))
  have HM : Hid (∀ r ∈ allO n, rkOk n r = true) := fun r hr => (allO_mem n1 n2).1 hr
  have HL : Hid (lstR cost n = lstT cost (allO n) (allO n).length) := rfl
  have hrl : (allO n).length ≤ 3125 := Nat.le_trans (allS_len n2 n []) (Nat.pow_le_pow_right (n := 5) (by decide) n2)
  have hrp := allO_pos n1 n2
  generalize allO n = rows at hv HM HL hrl hrp
  have hv := hv.wr
  have hv' := hv
  obtain ⟨av, cv, rfl, hcv, hju⟩ := hv'
  clear hju hw1 hw2 q0 q1 h0
  obtain ⟨wb, hwb⟩ : ∃ wb : World, wb = w2 := ⟨_, rfl⟩
  subst hwb
  go_wp2_with fail
  go_loopw [7, 8, 9, 11, 12, 20, 27, 37] (fun v l m _ _ i _ _ wr => ∃ k : Nat, k ≤ rows.length ∧ i = .int .i64 k ∧ l = .int .i64 (lstT cost rows k).2.1 ∧ m = .int .i64 ((lstT cost rows k).2.2 : Nat) ∧ Hid ((k = 0 → v = .slice none 0 0) ∧ (1 ≤ k → OwnI wr w.heap.size v (lstT cost rows k).1)) ∧ Ext wb wr) (fun _ _ _ _ _ i _ _ _ => rows.length - (intOf i).toNat)
  case atStart => exact ⟨0, Nat.zero_le _, rfl, rfl, rfl, ⟨fun _ => rfl, fun h => absurd h (by omega)⟩, Ext.refl _⟩
  case round =>
    obtain ⟨k, hk, rfl, rfl, rfl, hb, hwr⟩ := hrel
    by_cases hkt : k < rows.length
    · obtain ⟨r, hr⟩ := at_of_lt hkt
      obtain ⟨g, c3, a3, c4, hav, d0, hc4, hO⟩ := (hv.ext hwr).own hr
      injection hav with hav hav2 hav3
      subst hav
      subst hav3
      clear hav2
      have hrk := HM.out r (List.mem_of_getElem? hr)
      have HOb := hide (hO.base hlow)
      have HC := hide (fun w' (hw' : Ext wr w') => HF.out r a3 c4 w' hrk hc4 (hO.rdI.ext hw') ((hw.trans hwr).trans hw'))
      have HR := hide hr
      have hcn := lstT_cnt (cost := cost) (xss := rows) k
      have y1 : wrap64 (((lstT cost rows k).2.2 : Int) + 1) = ((lstT cost rows k).2.2 : Int) + 1 := IntWalk.wrap64_in _ (by omega)
      clear hr hrk hO
      by_cases hk0 : k = 0
      · have HT := hide (lstT_new (cost := cost) HR.out (.inl hk0))
        have hu := hb.out.1 hk0
        subst hu
        clear hk0 y1
        go_wp2_with fail
        refine (HC.out _ (by repeat (first | exact Ext.refl _ | assumption | refine Ext.alloc ?_ _ | refine Ext.drew ?_ | refine Ext.trans ?_ (by assumption)))).mono ?_
        rintro e w3 ⟨rfl, hw3⟩
        go_wp2
        exact ⟨⟨k + 1, by omega, by go_num, by rw [HT.out], by rw [HT.out]; rfl, hide ⟨fun h => absurd h (by omega), fun _ => by rw [HT.out]; exact HOb.out.ext hw3⟩, hwr.trans hw3⟩, by simp [intOf]; omega⟩
      · have hbo := hb.out.2 (by omega)
        have hmem := lstT_mem (cost := cost) (xss := rows) k (by omega) hk
        obtain ⟨a7, c7, rfl, _, _, hR7, ho7⟩ := hbo.val
        have hlb := (rk_len (HM.out _ hmem.1)).1
        obtain ⟨g7, hg7, _⟩ := ho7 (fun e => by rw [e] at hlb; simp at hlb; omega)
        subst hg7
        have HBO := hide hbo
        have HK0 := hide hk0
        have hcr := hc4
        clear hR7 ho7 hmem hbo hk0 hlb hcr hb
        rcases (show cost r < (lstT cost rows k).2.1 ∨ cost r = (lstT cost rows k).2.1 ∨ (lstT cost rows k).2.1 < cost r by omega) with hlt | heq | hgt
        · have HT := hide (lstT_new (cost := cost) HR.out (.inr hlt))
          go_wp2_with fail
          refine (HC.out _ (by repeat (first | exact Ext.refl _ | assumption | refine Ext.alloc ?_ _ | refine Ext.drew ?_ | refine Ext.trans ?_ (by assumption)))).mono ?_
          rintro e w3 ⟨rfl, hw3⟩
          go_wp2
          exact ⟨⟨k + 1, by omega, by go_num, by rw [HT.out], by rw [HT.out]; rfl, hide ⟨fun h => absurd h (by omega), fun _ => by rw [HT.out]; exact HOb.out.ext hw3⟩, hwr.trans hw3⟩, by simp [intOf]; omega⟩
        · have HT := hide (lstT_tie (cost := cost) HR.out HK0.out heq)
          have t1 : ¬ cost r < (lstT cost rows k).2.1 := by omega
          have t2 : (cost r == (lstT cost rows k).2.1) = true := by rw [beq_iff_eq]; exact heq
          have HQ := hide heq
          clear heq
          go_wp2_with fail
          refine (HC.out _ (by repeat (first | exact Ext.refl _ | assumption | refine Ext.alloc ?_ _ | refine Ext.drew ?_ | refine Ext.trans ?_ (by assumption)))).mono ?_
          rintro e w3 ⟨rfl, hw3⟩
          go_wp2
          exact ⟨⟨k + 1, by omega, by go_num, by rw [HT.out], by rw [HT.out]; exact congrArg (Value.int .i64) (by simp), hide ⟨fun h => absurd h (by omega), fun _ => by rw [HT.out]; exact HBO.out.ext hw3⟩, hwr.trans hw3⟩, by simp [intOf]; omega⟩
        · have HT := hide (lstT_old (cost := cost) HR.out HK0.out hgt)
          have t1 : ¬ cost r < (lstT cost rows k).2.1 := by omega
          have t2 : (cost r == (lstT cost rows k).2.1) = false := by rw [beq_eq_false_iff_ne]; omega
          go_wp2_with fail
          refine (HC.out _ (by repeat (first | exact Ext.refl _ | assumption | refine Ext.alloc ?_ _ | refine Ext.drew ?_ | refine Ext.trans ?_ (by assumption)))).mono ?_
          rintro e w3 ⟨rfl, hw3⟩
          go_wp2
          exact ⟨⟨k + 1, by omega, by go_num, by rw [HT.out], by rw [HT.out], hide ⟨fun h => absurd h (by omega), fun _ => by rw [HT.out]; exact HBO.out.ext hw3⟩, hwr.trans hw3⟩, by simp [intOf]; omega⟩
    · have hkn : k = rows.length := by omega
      have HE : Hid (lstR cost n = lstT cost rows k) := hide (by rw [HL.out, hkn])
      have hbo := hide (hb.out.2 (by omega))
      clear hkn hb
      go_wp2
      go_ret3
      refine ⟨_, (by rw [HE.out]; rfl), ?_, hw.trans hwr⟩
      rw [HE.out]
      exact hbo.out

set_option maxRecDepth 100000 in
set_option maxHeartbeats 1000000 in
theorem isRk_impl (w : World) (a : Option Addr) (c n : Nat) (xs : List Int) (hx : rkOk n xs = true) (hR : RdI w a xs) (hl : xs.length = n) (hc : n ≤ c) (n1 : inR (n : Int) 1 5 = true) :
    Calls Tryz.prog 117 #[.slice a n c] w fun e w' => e = .returned (.bool true) ∧ Ext w w' := by
  have h1 := rank_impl_n w n a c xs hR hl hc n1
  rw [hx] at h1
  have H1 := hide h1
  clear hx h1 hl hR
  go_enter Tryz.func117, Tryz.ntmps117
  go_wp2_with fail
  refine H1.out.mono ?_
  rintro e w1 ⟨rfl, hw1⟩
  go_wp2
  go_ret
  exact ⟨rfl, hw1⟩

set_option maxRecDepth 100000 in
set_option maxHeartbeats 4000000 in
theorem swap_impl (w : World) (a a2 : Option Addr) (c c2 : Nat) (n : Nat) (xs r : List Int) (hx : rkOk n xs = true) (hr : rkOk n r = true) (hR : RdI w a xs) (hR2 : RdI w a2 r) (hc : xs.length ≤ c) (hc2 : r.length ≤ c2) (n1 : inR (n : Int) 1 5 = true) :
    Calls Tryz.prog 157 #[.slice a xs.length c, .slice a2 r.length c2] w fun e w' => e = .returned (.int .i64 (swapN xs r : Nat)) ∧ Ext w w' := by
  have l1 := rk_len hx
  have l2 := rk_len hr
  have hxn : xs.length = n := by omega
  have hrn : r.length = n := by omega
  have n2 : n ≤ 5 := by omega
  have HX := hide hx
  have HR := hide hr
  have HXN := hide hxn
  have HRN := hide hrn
  rw [hxn] at hc
  rw [hrn] at hc2
  rw [hxn, hrn]
  clear hx hr l1 l2 hxn hrn
  obtain ⟨q, hq⟩ : ∃ q : Int → Int → Bool, q = fun y x => prefB r y x := ⟨_, rfl⟩
  have HQ : Hid (swapN xs r = bkI q xs) := hide (by rw [hq]; rfl)
  have HP : Hid (∀ (x y : Int) (w' : World), Ext w w' → Calls Tryz.prog 62 #[.slice a2 n c2, .int .i64 y, .int .i64 x] w' fun e w'' => e = .returned (.bool (q y x)) ∧ Ext w' w'') := fun x y w' hw' => by
    have h := pref_impl w' a2 c2 r y x (hR2.ext hw') (by rw [HRN.out]; omega)
    rw [HRN.out] at h
    rw [hq]
    exact h
  clear hq
  go_enter Tryz.func157, Tryz.ntmps157
  go_wp2_with (first
    | (go_at_call 117; refine (isRk_impl _ a c n xs HX.out (hR.ext (by repeat (first | exact Ext.refl _ | assumption | refine Ext.alloc ?_ _ | refine Ext.drew ?_ | refine Ext.trans ?_ (by assumption)))) HXN.out hc n1).mono ?_; rintro e w1 ⟨rfl, hw1⟩)
    | (go_at_call 117; refine (isRk_impl _ a2 c2 n r HR.out (hR2.ext (by repeat (first | exact Ext.refl _ | assumption | refine Ext.alloc ?_ _ | refine Ext.drew ?_ | refine Ext.trans ?_ (by assumption)))) HRN.out hc2 n1).mono ?_; rintro e w1 ⟨rfl, hw1⟩))
  have hw : Ext w w1 := (by repeat (first | exact Ext.refl _ | assumption | refine Ext.alloc ?_ _ | refine Ext.drew ?_ | refine Ext.trans ?_ (by assumption)))
  obtain ⟨wb, hwb⟩ : ∃ wb : World, wb = w1 := ⟨_, rfl⟩
  subst hwb
  clear hw1
  go_loopw [5, 6, 7, 9, 27, 35, 36, 37] (fun s _ _ _ i _ _ _ wr => ∃ j : Nat, j ≤ n ∧ i = .int .i64 j ∧ s = .int .i64 (bkTo q xs j : Nat) ∧ Ext wb wr) (fun _ _ _ _ i _ _ _ _ => n - (intOf i).toNat)
  case atStart => exact ⟨0, Nat.zero_le _, rfl, rfl, Ext.refl _⟩
  case round =>
    obtain ⟨j, hj, rfl, rfl, hwr⟩ := hrel
    have hbd := bkTo_bd q xs j
    rw [HXN.out] at hbd
    have hbd2 : bkTo q xs j ≤ 5 * 5 := Nat.le_trans hbd (Nat.mul_le_mul (by omega) n2)
    by_cases hjt : j < n
    · obtain ⟨x, hx⟩ := at_of_lt (xs := xs) (k := j) (by rw [HXN.out]; exact hjt)
      have hxm := List.mem_of_getElem? hx
      obtain ⟨b, off, rfl, c0⟩ := (hR.ext (hw.trans hwr)).at_ hx
      have hRd := (hR.ext (hw.trans hwr)).drop (n := off + (j + 1)) (j + 1) c (by rw [HXN.out]; exact hc) rfl
      have i1 : (j : Int) + 1 ≤ (c : Int) := by omega
      have i2 : j ≤ c := by omega
      have i3 : j + 1 ≤ c := by omega
      have i4 : j + 1 ≤ n := by omega
      have i7 : (j : Int) + 1 ≤ (n : Int) := by omega
      have i5 : ((j : Int) + 1).toNat = j + 1 := by omega
      have i6 : (0 : Int) ≤ (j : Int) + 1 := by omega
      have y1 : wrap64 ((j : Int) + 1) = (j : Int) + 1 := IntWalk.wrap64_in _ (by omega)
      have y2 : IntKind.i64.wrap ((j : Int) + 1) = (j : Int) + 1 := IntWalk.i64_in _ (by omega)
      have hgd : xs.getD j 0 = x := by simp [List.getD, hx]
      have hsu : bkTo q xs (j + 1) = bkTo q xs j + ((xs.drop (j + 1)).countP (fun y => q y x)) := by rw [bkTo, hgd]
      have HSU := hide hsu
      have hdl : (xs.drop (j + 1)).length = n - (j + 1) := by rw [List.length_drop, HXN.out]
      have HDL := hide hdl
      have HDM : Hid (∀ y ∈ xs.drop (j + 1), y ∈ xs) := fun y hy => List.mem_of_mem_drop hy
      clear hx hgd hsu hdl
      go_wp2_with fail
      all_goals
        first | rw [if_pos (by assumption)] at hRd | rw [if_neg (by assumption)] at hRd
        first | subst h | clear h
        clear i1 i2 i3 i4 i5 i6 i7 y1 y2
        generalize xs.drop (j + 1) = ys at hRd HSU HDL HDM
        obtain ⟨wo, hwo⟩ : ∃ wo : World, wo = wr := ⟨_, rfl⟩
        subst hwo
        go_loopw [5, 9, 37] (fun s _ i wr => ∃ m : Nat, m ≤ n - (j + 1) ∧ i = .int .i64 m ∧ s = .int .i64 ((bkTo q xs j : Int) + ((ys.take m).countP (fun y => q y x) : Int)) ∧ Ext wo wr) (fun _ _ i _ => n - (j + 1) - (intOf i).toNat)
        case atStart => exact ⟨0, Nat.zero_le _, rfl, by simp, Ext.refl _⟩
        case round =>
          obtain ⟨m, hm, rfl, rfl, hwr2⟩ := hrel
          by_cases hmt : m < n - (j + 1)
          · obtain ⟨y, hy⟩ := at_of_lt (xs := ys) (k := m) (by have := HDL.out; omega)
            obtain ⟨b2, off2, hb2, d0⟩ := (hRd.ext hwr2).at_ hy
            injection hb2 with hb2
            injection hb2 with hb2 hb3
            subst hb2
            subst hb3
            have hcm := List.countP_le_length (p := fun y => q y x) (l := ys.take m)
            rw [List.length_take] at hcm
            have hm2 : (ys.take m).countP (fun y => q y x) ≤ 5 := by omega
            have y3 : wrap64 ((bkTo q xs j : Int) + ((ys.take m).countP (fun y => q y x) : Int) + 1) = (bkTo q xs j : Int) + ((ys.take m).countP (fun y => q y x) : Int) + 1 := IntWalk.wrap64_in _ (by omega)
            have HN := hide (countP_at (p := fun y => q y x) hy)
            have hym := HDM.out y (List.mem_of_getElem? hy)
            clear hy hcm
            have HC := hide (HP.out x y wr (hw.trans (hwr.trans hwr2)))
            cases hq : q y x
            all_goals
              rw [hq] at HC HN
              go_wp2_with fail
              all_goals refine HC.out.mono ?_
              all_goals rintro e w1 ⟨rfl, hw1⟩
              all_goals go_wp2
              all_goals refine ⟨⟨m + 1, by omega, by go_num, ?_, hwr2.trans hw1⟩, by simp [intOf]; omega⟩
              all_goals rw [HN.out]
              all_goals simp
              all_goals omega
          · have hmn : m = n - (j + 1) := by omega
            have hyl := HDL.out
            go_wp2
            refine ⟨⟨j + 1, by omega, by go_num, ?_, hwr.trans hwr2⟩, by simp [intOf]; omega⟩
            rw [HSU.out, List.take_of_length_le (by omega), Int.natCast_add]
    · have hjn : j = n := by omega
      go_wp2
      go_ret
      exact ⟨ret_int (by rw [hjn, HQ.out, ← HXN.out, bkTo_all]), hw.trans hwr⟩

set_option maxRecDepth 100000 in
set_option maxHeartbeats 4000000 in
theorem kemS_impl (w : World) (n : Nat) (a ar : Option Addr) (c cr : Nat) (vs : List Vt) (r : List Int) (hR : RdV w a vs) (hRr : RdI w ar r) (h0 : profOk n vs = true) (hr : rkOk n r = true) (hcr : r.length ≤ cr) :
    Calls Tryz.prog 115 #[.agg #[.int .i64 n, .slice a vs.length c], .slice ar r.length cr] w fun e w' => e = .returned (.int .i64 (kemV vs r)) ∧ Ext w w' := by
  have q0 := new0 w (.int .i64 n) [.slice a vs.length c] 29
  have q1 := new1 w (.int .i64 n) (.slice a vs.length c) [] 29
  have HS := hide (prof_small h0)
  have hin : inR (n : Int) 1 5 = true := inR_iff.2 (by have := prof_size h0; omega)
  have hrn : r.length = n := by have := (rk_len hr).1; omega
  have HRK := hide hr
  have HRN := hide hrn
  have n2 : n ≤ 5 := by have := prof_size h0; omega
  rw [hrn] at hcr ⊢
  clear hr hrn
  go_enter Tryz.func115, Tryz.ntmps115
  have HRO : Hid (∀ w', Ext w w' → Calls Tryz.prog 80 #[.int .i64 n, .slice ar n cr] w' fun e w'' => e = .returned (.bool true) ∧ Ext w' w'') := fun w' hw' => by
    have h := rank_impl_n w' n ar cr r (hRr.ext hw') HRN.out hcr hin
    rw [HRK.out] at h
    exact h
  go_wp2_with (first
    | (go_at_call 36; refine (prof_impl _ _ _ _ _ (hR.ext (by repeat (first | exact Ext.refl _ | assumption | refine Ext.alloc ?_ _ | refine Ext.drew ?_ | refine Ext.trans ?_ (by assumption))))).mono ?_; rintro e w1 ⟨rfl, hw1⟩; have q0 := Ext.keep (w' := w1) (by repeat (first | exact Ext.refl _ | assumption | refine Ext.alloc ?_ _ | refine Ext.drew ?_ | refine Ext.trans ?_ (by assumption))) q0; have q1 := Ext.keep (w' := w1) (by repeat (first | exact Ext.refl _ | assumption | refine Ext.alloc ?_ _ | refine Ext.drew ?_ | refine Ext.trans ?_ (by assumption))) q1)
    | (go_at_call 80; refine (HRO.out _ (by repeat (first | exact Ext.refl _ | assumption | refine Ext.alloc ?_ _ | refine Ext.drew ?_ | refine Ext.trans ?_ (by assumption)))).mono ?_; rintro e w1 ⟨rfl, hw1⟩; have q0 := Ext.keep (w' := w1) (by repeat (first | exact Ext.refl _ | assumption | refine Ext.alloc ?_ _ | refine Ext.drew ?_ | refine Ext.trans ?_ (by assumption))) q0; have q1 := Ext.keep (w' := w1) (by repeat (first | exact Ext.refl _ | assumption | refine Ext.alloc ?_ _ | refine Ext.drew ?_ | refine Ext.trans ?_ (by assumption))) q1))
  have hw : Ext w w1 := (by repeat (first | exact Ext.refl _ | assumption | refine Ext.alloc ?_ _ | refine Ext.drew ?_ | refine Ext.trans ?_ (by assumption)))
  obtain ⟨wb, hwb⟩ : ∃ wb : World, wb = w1 := ⟨_, rfl⟩
  subst hwb
  clear hw1 HRO
  have hvl := HS.out.1
  go_loopw [5, 7, 21] (fun s _ i wr => ∃ k : Nat, k ≤ vs.length ∧ i = .int .i64 k ∧ s = .int .i64 (kemV (vs.take k) r) ∧ Ext wb wr) (fun _ _ i _ => vs.length - (intOf i).toNat)
  case atStart => exact ⟨0, Nat.zero_le _, rfl, rfl, Ext.refl _⟩
  case round =>
    obtain ⟨k, hk, rfl, rfl, hwr⟩ := hrel
    have hbd := kemV_bd (r := r) HS.out k hk
    by_cases hkt : k < vs.length
    · obtain ⟨x, hx⟩ := at_of_lt hkt
      obtain ⟨b, off, a', c', rfl, c0, c1, hc', hRx⟩ := (hR.ext (hw.trans hwr)).at_ hx
      have hxs := HS.out.2 x (List.mem_of_getElem? hx)
      have hxl : x.1.length = n := by have := (rk_len hxs.1).1; omega
      have hsb := swapN_bd (r := r) (rk_len hxs.1).2
      have hp1 : 0 ≤ x.2 * (swapN x.1 r : Int) := Int.mul_nonneg (by omega) (by omega)
      have hp2 : x.2 * (swapN x.1 r : Int) ≤ 1000 * 25 := Int.mul_le_mul (by omega) (by omega) (by omega) (by omega)
      have HN := hide (kemV_at (r := r) hx)
      have HC : Hid (∀ w', Ext wr w' → Calls Tryz.prog 157 #[.slice a' x.1.length c', .slice ar n cr] w' fun e w'' => e = .returned (.int .i64 (swapN x.1 r : Nat)) ∧ Ext w' w'') := fun w' hw' => by
        have h := swap_impl w' a' ar c' cr n x.1 r hxs.1 HRK.out (hRx.ext hw') (hRr.ext ((hw.trans hwr).trans hw')) hc' (by rw [HRN.out]; exact hcr) hin
        rw [HRN.out] at h
        exact h
      have e0 := new0 wr (.slice a' x.1.length c') [.int .i64 x.2] 55
      have e1 := new1 wr (.slice a' x.1.length c') (.int .i64 x.2) [] 55
      have y1 : IntKind.i64.wrap (x.2 * (swapN x.1 r : Int)) = x.2 * (swapN x.1 r : Int) := IntWalk.i64_in _ (by omega)
      have y2 : IntKind.i64.wrap (kemV (vs.take k) r + x.2 * (swapN x.1 r : Int)) = kemV (vs.take k) r + x.2 * (swapN x.1 r : Int) := IntWalk.i64_in _ (by omega)
      clear hx hxs hxl hsb hp1 hp2 hRx hbd
      go_wp2
      refine wp_region_X (by kernel_rfl) (by kernel_rfl) ?_
      repeat' (refine wpX_stepQ (fun K hK => ?_)
               go_simp
               try (rw [if_neg (by intro h; simp [undef] at h)])
               try split
               all_goals
                 first
                 | (refine hK _ ?_
                    clear hK K)
                 | (apply Exists.intro
                    refine ⟨fun wq hwq => ?_, hK _ ?_⟩
                    · have hcq := hwq.cellS
                      go_simp
                      first
                      | exact ⟨Ext.refl _, rfl⟩
                      | exact ⟨Ext.refl _, HC.out _ (by repeat (first | exact Ext.refl _ | assumption | refine Ext.alloc ?_ _ | refine Ext.drew ?_ | refine Ext.trans ?_ (by assumption)))⟩
                    clear hK K))
      refine wpX_nil (fun wz hwz => ?_)
      go_wp2
      exact ⟨⟨k + 1, by omega, by go_num, by rw [HN.out], (by repeat (first | exact Ext.refl _ | assumption | refine Ext.alloc ?_ _ | refine Ext.drew ?_ | refine Ext.trans ?_ (by assumption)))⟩, by simp [intOf]; omega⟩
    · have HK : Hid (kemV (vs.take k) r = kemV vs r) := hide (by rw [List.take_of_length_le (by omega)])
      go_wp2
      go_ret
      exact ⟨ret_int HK.out, hw.trans hwr⟩

set_option maxRecDepth 100000 in
set_option maxHeartbeats 1000000 in
theorem kem_impl (w : World) (sz : Int) (a : Option Addr) (c : Nat) (vs : List Vt) (hR : RdV w a vs) (h0 : profOk sz vs = true) :
    Calls Tryz.prog 52 #[.agg #[.int .i64 sz, .slice a vs.length c]] w fun e w' => ∃ v, e = .returned v ∧ OwnI w' w.heap.size v (kemO sz vs) ∧ Ext w w' := by
  obtain ⟨n, rfl, n1, n2⟩ := prof_nat h0
  have q0 := new0 w (.int .i64 n) [.slice a vs.length c] 29
  have q1 := new1 w (.int .i64 n) (.slice a vs.length c) [] 29
  have hE := Ext.new w (.cells #[.int .i64 n, .slice a vs.length c] 29)
  have hl := least_impl 114 #[] #[.pointer (some ⟨w.heap.size, 0, none⟩)] (kemV vs) _ n a c vs (hR.ext hE) h0 n1 n2 Tryz.call114
    (fun r a' c' w' hr hc hRr hw' => by
      have r0 := hw'.keep q0
      have r1 := hw'.keep q1
      have HC := hide (fun w'' (hw'' : Ext w' w'') => kemS_impl w'' n a a' c c' vs r ((hR.ext hE).ext (hw'.trans hw'')) (hRr.ext hw'') h0 hr hc)
      show Calls Tryz.prog 114 #[.slice a' r.length c', .pointer (some ⟨w.heap.size, 0, none⟩)] w' _
      go_enter Tryz.func114, Tryz.ntmps114
      go_wp2_with fail
      refine (HC.out _ (by repeat (first | exact Ext.refl _ | assumption | refine Ext.alloc ?_ _ | refine Ext.drew ?_ | refine Ext.trans ?_ (by assumption)))).mono ?_
      rintro e w1 ⟨rfl, hw1⟩
      go_wp2
      go_ret
      exact ⟨rfl, hw1⟩)
  have HC := hide hl
  have HK : Hid (kemO n vs = (lstR (kemV vs) n).1) := hide (by simp [kemO, lstO, h0])
  clear hl h0
  go_enter Tryz.func52, Tryz.ntmps52
  go_wp2_with fail
  refine HC.out.mono ?_
  rintro e w1 ⟨v, rfl, hv, hw1⟩
  go_wp2
  go_ret
  exact ⟨_, rfl, by rw [HK.out]; exact hv.base (by simp), hE.trans hw1⟩

/-- A list in memory: where it lies, and what it holds. -/
structure RowE where
  a : Option Addr
  n : Nat
  c : Nat
  xs : List Int
def rowV (e : RowE) : Value := .slice e.a e.n e.c

set_option maxRecDepth 100000 in
set_option maxHeartbeats 8000000 in
theorem insR_impl (K : Nat) (fst cap : Array Value) (key : RowE → Int) (d : RowE → RowE → Int) (w : World) (g n c : Nat) (ys : List RowE) (hn : ys.length = n) (hn2 : n ≤ 1000) (hB : BlkF w g n (memF rowV ys)) (hK : Enters Tryz.prog K)
    (hd : ∀ x y, d x y < 0 ↔ key y < key x)
    (hf : ∀ (x y : RowE) (w' : World), x ∈ ys → y ∈ ys → Only g w w' → Calls Tryz.prog K (fst ++ (#[.slice x.a x.n x.c, .slice y.a y.n y.c] ++ cap)) w' fun e w'' => e = .returned (.int .i64 (d x y)) ∧ Ext w' w'') :
    Calls Tryz.prog 192 #[.slice (some ⟨g, 0, none⟩) n c, .int .i64 0, .int .i64 n, .func (.func K) fst cap] w fun e w' => e = .returned (.tuple #[]) ∧ BlkF w' g n (memF rowV (sortD key ys)) ∧ Only g w w' := by
  unfold Enters at hK
  have HF := hide hf
  have HD := hide hd
  have HN := hide hn
  clear hf hd hn
  go_enter Tryz.func192, Tryz.ntmps192
  go_wp2_with fail
  go_loopw [8, 9] (fun i _ wr => ∃ k : Nat, 1 ≤ k ∧ (k ≤ n ∨ k = 1) ∧ i = .int .i64 k ∧ BlkF wr g n (memF rowV (sortD key (ys.take k) ++ ys.drop k)) ∧ Only g w wr) (fun i _ _ => n - (intOf i).toNat)
  case atStart =>
    refine ⟨1, Nat.le_refl _, .inr rfl, rfl, ?_, Only.refl _ _⟩
    have : sortD key (ys.take 1) ++ ys.drop 1 = ys := by
      cases ys with
      | nil => rfl
      | cons y ys => simp [sortD, insD]
    rw [this]; exact hB
  case round =>
    clear hB
    obtain ⟨i, hi1, hi, rfl, hB, hw⟩ := hrel
    by_cases hit : i < n
    · obtain ⟨x, hx⟩ := at_of_lt (xs := ys) (k := i) (by have := HN.out; omega)
      have hxm := List.mem_of_getElem? hx
      obtain ⟨S, hS⟩ : ∃ S, S = sortD key (ys.take i) := ⟨_, rfl⟩
      obtain ⟨R, hR⟩ : ∃ R, R = ys.drop (i + 1) := ⟨_, rfl⟩
      have hSl : S.length = i := by rw [hS, sortD_len, List.length_take]; have := HN.out; omega
      have hRl : R.length = n - (i + 1) := by rw [hR, List.length_drop, HN.out]
      have hSm : ∀ y ∈ S, y ∈ ys := fun y hy => List.mem_of_mem_take (sortD_mem.1 (by rw [hS] at hy; exact hy))
      have hSd : DescK key S := by rw [hS]; exact sortD_desc _ _
      have h0 : sortD key (ys.take i) ++ ys.drop i = layL S x R i := by
        rw [← hSl, layL_end, hS, hR, sortD_len, List.length_take, Nat.min_eq_left (by have := HN.out; omega), List.drop_eq_getElem_cons (by have := HN.out; omega)]
        rw [List.getElem?_eq_getElem (by have := HN.out; omega)] at hx
        injection hx with hx
        rw [hx]
      have h1 : ∀ j, insD key S x = S.take j ++ x :: S.drop j → sortD key (ys.take (i + 1)) ++ ys.drop (i + 1) = layL S x R j := fun j hj => by
        rw [sortD_at hx, ← hS, hj, ← hR]; simp [layL]
      rw [h0] at hB
      have H1 := hide h1
      have HSL := hide hSl
      have HRL := hide hRl
      have HSM := hide hSm
      have HSD := hide hSd
      clear hx hS hR h0 h1 hSl hRl hSm hSd
      go_wp2_with fail
      obtain ⟨wo, hwo⟩ : ∃ wo : World, wo = wr := ⟨_, rfl⟩
      subst hwo
      go_loopw [9] (fun jj wr => ∃ j : Nat, j ≤ i ∧ jj = .int .i64 j ∧ BlkF wr g n (memF rowV (layL S x R j)) ∧ Hid (∀ y ∈ S.drop j, key y < key x) ∧ Only g w wr) (fun jj _ => (intOf jj).toNat)
      case atStart => exact ⟨i, Nat.le_refl _, rfl, hB, (fun y hy => by rw [List.drop_of_length_le (by rw [HSL.out]; exact Nat.le_refl _)] at hy; simp at hy), hw⟩
      case round =>
        clear hB hw
        obtain ⟨j, hj, rfl, hB, hlow, hw⟩ := hrel
        by_cases hj0 : j = 0
        · subst hj0
          have H2 := hide (H1.out 0 (insD_stop HSD.out (.inl rfl) hlow.out))
          go_wp2
          refine wp_region_X (by kernel_rfl) (by kernel_rfl) ?_
          repeat' (refine wpX_stepQ (fun K hK => ?_)
                   go_simp
                   try (rw [if_neg (by intro h; simp [undef] at h)])
                   try split
                   all_goals
                     first
                     | (refine hK _ ?_
                        clear hK K)
                     | (apply Exists.intro
                        refine ⟨fun wq hwq => ?_, hK _ ?_⟩
                        · have hcq := hwq.cellS
                          go_simp
                          first
                          | exact ⟨Ext.refl _, rfl⟩
                        clear hK K))
          refine wpX_nil (fun wz hwz => ?_)
          go_wp2
          exact ⟨⟨i + 1, by omega, by omega, by go_num, by rw [H2.out]; exact hB.ext hwz, hw.trans (Only.of_ext hwz)⟩, by simp [intOf]; omega⟩
        · obtain ⟨m, hm⟩ : ∃ m : Nat, j = m + 1 := ⟨j - 1, by omega⟩
          subst hm
          have hSn := HSL.out
          obtain ⟨y, hy⟩ := at_of_lt (xs := S) (k := m) (by omega)
          have hym := HSM.out y (List.mem_of_getElem? hy)
          have a1 : (layL S x R (m + 1))[m + 1]? = some x := by rw [layL_at (by omega), if_neg (by omega), if_pos rfl]
          have a2 : (layL S x R (m + 1))[m]? = some y := by rw [layL_at (by omega), if_pos (by omega)]; exact hy
          have d0 := hB.cell (m + 1) (by omega)
          have d1 := hB.cell m (by omega)
          rw [memF_at a1, rowV] at d0
          rw [memF_at a2, rowV] at d1
          have z0 := hB.fr (m + 1)
          have z1 := hB.fr m
          have HC : Hid (∀ w', Ext wr w' → Calls Tryz.prog K (fst ++ (#[.slice x.a x.n x.c, .slice y.a y.n y.c] ++ cap)) w' fun e w'' => e = .returned (.int .i64 (d x y)) ∧ Ext w' w'') := fun w' hw' => HF.out x y w' hxm hym (hw.trans (Only.of_ext hw'))
          have y1 : wrap64 ((m : Int) + 1 - 1) = m := by rw [IntWalk.wrap64_in _ (by omega)]; omega
          have y2 : IntKind.i64.wrap ((m : Int) + 1 - 1) = m := by rw [IntWalk.i64_left]; exact y1
          have y3 : wrap64 (m : Int) = m := IntWalk.wrap64_in _ (by omega)
          have y4 : IntKind.i64.wrap (m : Int) = m := IntWalk.i64_in _ (by omega)
          have i1 : (m : Int) + 1 < (n : Int) := by omega
          have i2 : (0 : Int) ≤ (m : Int) + 1 := by omega
          have i3 : ((m : Int) + 1).toNat = m + 1 := by omega
          have i4 : m < n := by omega
          have i5 : m + 1 < n := by omega
          have HB := hide hB
          have HY := hide hy
          have A1 := hide a1
          have A2 := hide a2
          clear hB a1 a2 hy hSn
          by_cases hlt : key y < key x
          · have t1 : d x y < 0 := (HD.out x y).2 hlt
            go_wp2
            refine wp_region_X (by kernel_rfl) (by kernel_rfl) ?_
            repeat' (refine wpX_stepQ (fun K hK => ?_)
                     go_simp
                     try (rw [if_neg (by intro h; simp [undef] at h)])
                     try split
                     all_goals
                       first
                       | (refine hK _ ?_
                          clear hK K)
                       | (apply Exists.intro
                          refine ⟨fun wq hwq => ?_, hK _ ?_⟩
                          · have hcq := hwq.cellS
                            go_simp
                            first
                            | exact ⟨Ext.refl _, rfl⟩
                            | exact ⟨Ext.refl _, HC.out _ (by repeat (first | exact Ext.refl _ | assumption | refine Ext.alloc ?_ _ | refine Ext.drew ?_ | refine Ext.trans ?_ (by assumption)))⟩
                          clear hK K))
            refine wpX_nil (fun wz hwz => ?_)
            go_wp2
            have hBz := HB.out.ext hwz
            have hOz : Only g w wz := hw.trans (Only.of_ext hwz)
            have b0 := hBz.cell (m + 1) i5
            have b1 := hBz.cell m i4
            have g0 := hBz.fr (m + 1)
            have g1 := hBz.fr m
            have HZ := hide hBz
            rw [memF_at (A1.out), rowV] at b0
            rw [memF_at (A2.out), rowV] at b1
            obtain ⟨wp, hwp⟩ : ∃ wp : World, wp = wz := ⟨_, rfl⟩
            subst hwp
            clear hwz d0 d1 z0 z1 HC HB hBz hw
            refine wp_region_L (H := g) (late := [4]) (by kernel_rfl) (by kernel_rfl) ?_
            repeat' (refine wpL_stepQ rfl (fun K hK => ?_)
                     go_simp
                     try (rw [if_neg (by intro h; simp [undef] at h)])
                     try split
                     all_goals
                       first
                       | (refine hK _ ?_
                          clear hK K)
                       | (apply Exists.intro
                          refine ⟨fun wq hwq => ?_, hK _ ?_⟩
                          · have hcq := hwq.cellS
                            go_simp
                            first
                            | exact ⟨Ext.refl _, rfl⟩
                          clear hK K))
            refine wpL_stepQL (.int .i64 (m : Int)) rfl (fun wq hwq => ?_) (fun K hK0 => ?_)
            · go_simp
              exact ⟨Ext.refl _, rfl⟩
            refine hK0 _ ?_
            clear hK0 K
            repeat' (refine wpL_stepQ rfl (fun K hK => ?_)
                     go_simp
                     try (rw [if_neg (by intro h; simp [undef] at h)])
                     try split
                     all_goals
                       first
                       | (refine hK _ ?_
                          clear hK K)
                       | (apply Exists.intro
                          refine ⟨fun wq hwq => ?_, hK _ ?_⟩
                          · have hcq := hwq.cellS
                            go_simp
                            first
                            | exact ⟨Ext.refl _, rfl⟩
                          clear hK K))
            refine wpL_stepC rfl (by kernel_rfl) (fun K hK' wa hwa => ?_)
            have hca := hwa.cellS
            have hfa := hwa.frozenS
            go_simp
            refine ⟨Low.set (H := g) _ (p := ⟨g, m + 1, none⟩) (Nat.le_refl g) _, hK' _ _ ?_⟩
            clear hK' K hca hfa
            have hB1 := (HZ.out.ext hwa).set (m + 1) i5 (.slice y.a y.n y.c)
            have hO1 : Only g w (wa.setCell ⟨g, m + 1, none⟩ (.slice y.a y.n y.c)) := (hOz.trans (Only.of_ext hwa)).setCell _ _
            generalize wa.setCell ⟨g, m + 1, none⟩ (.slice y.a y.n y.c) = w5 at hB1 hO1 ⊢
            have b2 := hB1.cell m i4
            rw [if_neg (by omega), memF_at A2.out, rowV] at b2
            have g2 := hB1.fr m
            have HB1 := hide hB1
            clear hB1 HZ b0 b1 g0 g1 hOz
            repeat' (refine wpL_stepQ rfl (fun K hK => ?_)
                     go_simp
                     try (rw [if_neg (by intro h; simp [undef] at h)])
                     try split
                     all_goals
                       first
                       | (refine hK _ ?_
                          clear hK K)
                       | (apply Exists.intro
                          refine ⟨fun wq hwq => ?_, hK _ ?_⟩
                          · have hcq := hwq.cellS
                            go_simp
                            first
                            | exact ⟨Ext.refl _, rfl⟩
                          clear hK K))
            refine wpL_stepL rfl (by kernel_rfl) (by kernel_rfl) (by kernel_rfl) (fun K hK wz hwz => ?_)
            have hcz := hwz.cellS
            have hfz := hwz.frozenS
            go_simp
            refine hK _ _ ?_
            clear hK K
            go_wp2
            refine ⟨⟨m, by omega, by go_num, ((HB1.out.ext hwz).set m i4 (.slice x.a x.n x.c)).congr (fun o _ => lay_swap (val := rowV) HY.out (by have := HSL.out; omega) o), fun z hz => ?_, (hO1.trans (Only.of_ext hwz)).setCell _ _⟩, by simp [intOf]⟩
            rw [List.drop_eq_getElem_cons (lt_of_at HY.out)] at hz
            rcases List.mem_cons.1 hz with hz | hz
            · have hy := HY.out
              rw [List.getElem?_eq_getElem (lt_of_at hy)] at hy
              injection hy with hy
              rw [hz, hy]; exact hlt
            · exact hlow.out z hz
          · have t1 : ¬ d x y < 0 := fun h => hlt ((HD.out x y).1 h)
            have H2 := hide (H1.out (m + 1) (insD_stop HSD.out (.inr ⟨y, HY.out, by omega⟩) hlow.out))
            go_wp2
            refine wp_region_X (by kernel_rfl) (by kernel_rfl) ?_
            repeat' (refine wpX_stepQ (fun K hK => ?_)
                     go_simp
                     try (rw [if_neg (by intro h; simp [undef] at h)])
                     try split
                     all_goals
                       first
                       | (refine hK _ ?_
                          clear hK K)
                       | (apply Exists.intro
                          refine ⟨fun wq hwq => ?_, hK _ ?_⟩
                          · have hcq := hwq.cellS
                            go_simp
                            first
                            | exact ⟨Ext.refl _, rfl⟩
                            | exact ⟨Ext.refl _, HC.out _ (by repeat (first | exact Ext.refl _ | assumption | refine Ext.alloc ?_ _ | refine Ext.drew ?_ | refine Ext.trans ?_ (by assumption)))⟩
                          clear hK K))
            refine wpX_nil (fun wz hwz => ?_)
            go_wp2
            exact ⟨⟨i + 1, by omega, by omega, by go_num, by rw [H2.out]; exact HB.out.ext hwz, hw.trans (Only.of_ext hwz)⟩, by simp [intOf]; omega⟩
    · have hin : i = n ∨ (i = 1 ∧ n = 0) := by omega
      go_wp2
      go_end0
      rw [List.take_of_length_le (by have := HN.out; omega), List.drop_of_length_le (by have := HN.out; omega), List.append_nil] at hB
      exact ⟨rfl, hB, hw⟩

end Go.Proofs.YtilcdnkkabmbfaaGreat
