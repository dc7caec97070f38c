/- The ranking by scores, of the spec. -/
import Derived.Test.YtagepfgncbgncaaWts
import Derived.Test.YtagepfgncbgncaaSort
import Derived.Test.YtagepfgncbgncaaAppG
import Derived.Test.YtagepfgncbgncaaElim
namespace Go.Proofs.Ytagepfgncbgncaa
open Go.RowKit

def keyS (sc : Nat → Int) (x : Int) : Int := sc x.toNat
/-- Candidates by their scores, the greatest first, equal ones in ascending order. -/
def srk (sc : Nat → Int) (n : Nat) : List Int := sortD (keyS sc) (iotaL n)
set_option maxRecDepth 100000 in
theorem iota_succ (n : Nat) : iotaL (n + 1) = iotaL n ++ [(n : Int)] := rowL_succ n _
set_option maxRecDepth 100000 in
theorem srk_succ (sc : Nat → Int) (n : Nat) : srk sc (n + 1) = insD (keyS sc) (srk sc n) n := by unfold srk; rw [iota_succ, sortD_snoc]
set_option maxRecDepth 100000 in
theorem srk_len (sc : Nat → Int) (n : Nat) : (srk sc n).length = n := by unfold srk; rw [sortD_len]; exact rowL_len _ _
set_option maxRecDepth 100000 in
theorem srk_mem {sc : Nat → Int} {n : Nat} {x : Int} (h : x ∈ srk sc n) : ∃ i : Nat, i < n ∧ x = i := by
  unfold srk at h
  rw [sortD_mem] at h
  obtain ⟨j, hj⟩ := List.mem_iff_getElem?.1 h
  obtain ⟨h1, rfl⟩ := rowL_val hj
  exact ⟨j, h1, rfl⟩

set_option maxRecDepth 100000 in
set_option maxHeartbeats 4000000 in
theorem srk_spec (w : World) (sz : Int) (a aw : Option Addr) (c cw : Nat) (vs : List Vt) (f : Nat → Int) (n : Nat) (hz : sz = n) (hR : RdV w a vs) (hW : RdI w aw (rowL n f)) (hf : GoodW f) (h0 : profOk sz vs = true) :
    Calls Try.prog 87 #[.agg #[.int .i64 sz, .slice a vs.length c], .slice aw n cw] w fun e w' => ∃ v, e = .returned v ∧ OwnI w' w.heap.size v (srk (scoV f vs) n) ∧ Ext w w' := by
  subst hz
  obtain ⟨m, hm, n1, n2⟩ := prof_nat h0
  have hnm : n = m := by omega
  rw [← hnm] at n1 n2
  clear hm hnm m
  have HF := hide hf
  clear hf
  have q0 := new0 w (.int .i64 n) [.slice a vs.length c] 43
  have q1 := new1 w (.int .i64 n) (.slice a vs.length c) [] 43
  go_enter Try.func87, Try.ntmps87
  go_wp2_with (go_at_call 142; refine (l05Ok_spec _ _ a aw c cw vs f n rfl (hR.ext (by repeat (first | exact Ext.refl _ | assumption | refine Ext.alloc ?_ _ | refine Ext.drew ?_ | refine Ext.trans ?_ (by assumption)))) (hW.ext (by repeat (first | exact Ext.refl _ | assumption | refine Ext.alloc ?_ _ | refine Ext.drew ?_ | refine Ext.trans ?_ (by assumption)))) HF.out h0).mono ?_; rintro e w1 ⟨rfl, hw1⟩; have q0 := Ext.keep (w' := w1) (by repeat (first | exact Ext.refl _ | assumption | refine Ext.alloc ?_ _ | refine Ext.drew ?_ | refine Ext.trans ?_ (by assumption))) q0; have q1 := Ext.keep (w' := w1) (by repeat (first | exact Ext.refl _ | assumption | refine Ext.alloc ?_ _ | refine Ext.drew ?_ | refine Ext.trans ?_ (by assumption))) q1)
  refine (sco_spec _ _ a aw c cw vs f n rfl (hR.ext (by repeat (first | exact Ext.refl _ | assumption | refine Ext.alloc ?_ _ | refine Ext.drew ?_ | refine Ext.trans ?_ (by assumption)))) (hW.ext (by repeat (first | exact Ext.refl _ | assumption | refine Ext.alloc ?_ _ | refine Ext.drew ?_ | refine Ext.trans ?_ (by assumption)))) HF.out h0).mono ?_
  rintro e w2 ⟨v, rfl, hv, hw2⟩
  have hw : Ext w w2 := (by repeat (first | exact Ext.refl _ | assumption | refine Ext.alloc ?_ _ | refine Ext.drew ?_ | refine Ext.trans ?_ (by assumption)))
  obtain ⟨av, cv, rfl, hcs, hRs, hju⟩ := hv.fr
  clear hju
  rw [rowL_len] at hcs ⊢
  clear hv hw1 hw2 q0 q1
  obtain ⟨wb, hwb⟩ : ∃ wb : World, wb = w2 := ⟨_, rfl⟩
  subst hwb
  obtain ⟨sc, hsc⟩ : ∃ sc, sc = scoV f vs := ⟨_, rfl⟩
  rw [← hsc] at hRs
  have HSC := hide hsc
  clear hsc
  have hO := OwnI.made0 wb
  have hE := Ext.new wb (.cells #[] 3)
  have hsl : ∃ g c', (Value.slice (some ⟨wb.heap.size, 0, none⟩) 0 0) = .slice (some ⟨g, 0, none⟩) (srk sc 0).length c' := ⟨_, _, rfl⟩
  go_wp2_with fail
  generalize wb.alloc (.cells #[] 3) = W0 at hO hE ⊢
  go_loopw [6, 7, 8, 9, 20] (fun v _ _ _ i wr => ∃ j : Nat, j ≤ n ∧ i = .int .i64 j ∧ OwnI wr wb.heap.size v (srk sc j) ∧ Hid (∃ g c', v = .slice (some ⟨g, 0, none⟩) (srk sc j).length c') ∧ Ext wb wr) (fun _ _ _ _ i _ => n - (intOf i).toNat)
  case atStart => exact ⟨0, Nat.zero_le _, rfl, hO, hsl, hE⟩
  case round =>
    clear hO hE hsl
    obtain ⟨j, hj, rfl, hown, hsl, hwr⟩ := hrel
    by_cases hjt : j < n
    · obtain ⟨g, co, rfl⟩ := hsl.out
      have hRo := hown.rdI
      obtain ⟨_, _, e1, hco, hcm, hju⟩ := hown.val
      clear hju
      injection e1 with e1 e2 e3
      subst e3
      clear e1 e2 hsl hcm
      have HL := hide (srk_len sc j)
      have hS5 : (srk sc j).length ≤ 5 := by rw [srk_len]; omega
      have HM : Hid (∀ x ∈ srk sc j, ∃ i : Nat, i < j ∧ x = i) := fun x hx => srk_mem hx
      have HS := hide (srk_succ sc j)
      have HD : Hid (DescK (keyS sc) (srk sc j)) := sortD_desc _ _
      have HK : Hid (keyS sc (j : Int) = sc j) := hide (by unfold keyS; rw [Int.toNat_natCast])
      generalize srk sc j = S at hown hRo hco HL HM HS HD hS5 ⊢
      obtain ⟨b2, off2, rfl, c0⟩ := (hRs.ext hwr).at_ (rowL_at (f := sc) hjt)
      have hSl := HL.out
      have hRsr := hRs.ext hwr
      have HO := hide hown
      have HRO := hide hRo
      clear hSl hown hRo
      go_wp2_with fail
      obtain ⟨wo, hwo⟩ : ∃ wo : World, wo = wr := ⟨_, rfl⟩
      subst hwo
      go_loopw [8] (fun k wr => ∃ m : Nat, m ≤ S.length ∧ k = .int .i64 m ∧ Hid (∀ y ∈ S.take m, keyS sc (j : Int) ≤ keyS sc y) ∧ Ext wo wr) (fun k _ => S.length - (intOf k).toNat)
      case atStart => exact ⟨0, Nat.zero_le _, rfl, (fun y hy => by simp at hy), Ext.refl _⟩
      case round =>
        obtain ⟨m, hm, rfl, hle, hwr2⟩ := hrel
        have c0 := hwr2.keep c0
        have hco2 : m ≤ co := by omega
        have hend : (m = S.length ∨ ∃ y, S[m]? = some y ∧ keyS sc y < keyS sc (j : Int)) → insD (keyS sc) S (j : Int) = S.take m ++ (j : Int) :: S.drop m := fun h => insD_count hle.out h HD.out
        have HE := hide hend
        clear hend
        by_cases hmt : m < S.length
        · obtain ⟨y, hy⟩ := at_of_lt hmt
          obtain ⟨i, hi, rfl⟩ := HM.out y (List.mem_of_getElem? hy)
          obtain ⟨b3, off3, hb3, d0⟩ := (HRO.out.ext hwr2).at_ hy
          injection hb3 with hb3
          injection hb3 with hb3 hb4
          subst hb3
          subst hb4
          obtain ⟨b4, off4, hb4, d1⟩ := (hRsr.ext hwr2).at_ (rowL_at (f := sc) (show i < n by omega))
          injection hb4 with hb4
          injection hb4 with hb4 hb5
          subst hb4
          subst hb5
          have hin : i < n := by omega
          rw [Nat.zero_add] at d0
          have HY := hide hy
          have HKi : Hid (keyS sc (i : Int) = sc i) := hide (by unfold keyS; rw [Int.toNat_natCast])
          clear hy
          have y1 : wrap64 ((m : Int) + 1) = (m : Int) + 1 := IntWalk.wrap64_in _ (by omega)
          by_cases hge : sc j ≤ sc i
          · go_wp2
            refine wp_region_X (by kernel_rfl) (by kernel_rfl) ?_
            repeat' (refine wpX_stepQ (fun K hK => ?_)
                     go_simp
                     try (rw [if_neg (by intro h; simp [undef] at h)])
                     try split
                     all_goals
                       first
                       | (refine hK _ ?_
                          clear hK K)
                       | (apply Exists.intro
                          refine ⟨fun wq hwq => ?_, hK _ ?_⟩
                          · have hcq := hwq.cellS
                            go_simp
                            first
                            | exact ⟨Ext.refl _, rfl⟩
                          clear hK K))
            refine wpX_nil (fun wz hwz => ?_)
            go_wp2
            exact ⟨⟨m + 1, by omega, by go_num, (fun z hz => by
              rw [take_at HY.out] at hz
              rcases List.mem_append.1 hz with hz | hz
              · exact hle.out z hz
              · simp at hz
                rw [hz, HK.out, HKi.out]; exact hge), hwr2.trans hwz⟩, by simp [intOf]; omega⟩
          · have hlt : sc i < sc j := by omega
            have H2 := hide (HE.out (.inr ⟨_, HY.out, by rw [HK.out, HKi.out]; exact hlt⟩))
            go_wp2
            refine wp_region_X (by kernel_rfl) (by kernel_rfl) ?_
            repeat' (refine wpX_stepQ (fun K hK => ?_)
                     go_simp
                     try (rw [if_neg (by intro h; simp [undef] at h)])
                     try split
                     all_goals
                       first
                       | (refine hK _ ?_
                          clear hK K)
                       | (apply Exists.intro
                          refine ⟨fun wq hwq => ?_, hK _ ?_⟩
                          · have hcq := hwq.cellS
                            go_simp
                            first
                            | exact ⟨Ext.refl _, rfl⟩
                          clear hK K))
            refine wpX_nil (fun wz hwz => ?_)
            have hRz := HRO.out.ext (hwr2.trans hwz)
            have hwz2 := hwr.trans (hwr2.trans hwz)
            have hO0 := OwnI.made0 wz
            have hE0 := Ext.new wz (.cells #[] 3)
            have hT := hRz.take m
            have hRd1 : Hid (co = m → RdI wz (some ⟨g, 0, none⟩) (S.drop m)) := fun h => by
              have h2 := hRz.drop (n := 0 + m) m co (by omega) rfl
              rwa [if_pos h] at h2
            have hRd2 : Hid (¬ co = m → RdI wz (some ⟨g, m, none⟩) (S.drop m)) := fun h => by
              have h2 := hRz.drop (n := 0 + m) m co (by omega) rfl
              rwa [if_neg h, Nat.zero_add] at h2
            have hSl := HL.out
            have htl : m = (S.take m).length := by rw [List.length_take]; omega
            have hdl : S.length - m = (S.drop m).length := by rw [List.length_drop]
            have ht5 : (S.take m).length ≤ 5 := by rw [List.length_take]; omega
            have hd5 : (S.drop m).length ≤ 5 := by rw [List.length_drop]; omega
            have HTL := hide htl
            have HDL := hide hdl
            clear hSl htl hdl c0 hRz
            go_wp2_with (first
              | (at_builtin; refine wpList_appG wz.heap.size _ rfl (.tmp 43) (.tmp 46) rfl _ [] (S.take m) rfl (by exact hO0) hE0.size (some ⟨g, 0, none⟩) m co HTL.out rfl (hT.ext hE0) (by rw [List.length_nil]; omega) ?_; intro v1 w1 hO1 hg1 _; have hE1 : Ext wz w1 := Ext.grown hE0 hg1 (ownsRow_block hO0))
              | (at_builtin; refine wpList_appI wz _ rfl (.tmp 48) (.tmp 50) rfl _ (S.take m) _ rfl (by exact hO1) hE1 rfl (by omega) ?_; intro v2 w2 hO2 hE2)
              | (at_builtin; refine wpList_appG wz.heap.size _ rfl (.tmp 52) (.tmp 55) rfl _ (S.take m ++ [(j : Int)]) (S.drop m) rfl (by exact hO2) hE2.size _ _ _ HDL.out rfl ((hRd1.out (by omega)).ext hE2) (by rw [List.length_append, List.length_singleton]; omega) ?_; intro v3 w3 hO3 hg3 _)
              | (at_builtin; refine wpList_appG wz.heap.size _ rfl (.tmp 52) (.tmp 55) rfl _ (S.take m ++ [(j : Int)]) (S.drop m) rfl (by exact hO2) hE2.size _ _ _ HDL.out rfl ((hRd2.out (by omega)).ext hE2) (by rw [List.length_append, List.length_singleton]; omega) ?_; intro v3 w3 hO3 hg3 _))
            all_goals
              have hE3 : Ext wb w3 := Ext.grown (hwz2.trans hE2) hg3 (fun q hq => Nat.le_trans hwz2.size (ownsRow_block hO2 q hq))
              have hO3 := hO3.base hwz2.size
              rw [List.append_assoc, List.singleton_append, ← H2.out, ← HS.out] at hO3
              refine ⟨⟨j + 1, by omega, by go_num, hO3, ?_, hE3⟩, by simp [intOf]; omega⟩
              obtain ⟨a9, c9, e9, _, _, _, ho⟩ := hO3.val
              obtain ⟨g9, hg9, _⟩ := ho (fun e => by have := srk_len sc (j + 1); rw [e] at this; simp at this)
              exact ⟨g9, c9, by rw [e9, hg9]⟩
        · have hml : m = S.length := by omega
          have H2 := hide (HE.out (.inl hml))
          subst hml
          go_wp2
          refine wp_region_X (by kernel_rfl) (by kernel_rfl) ?_
          repeat' (refine wpX_stepQ (fun K hK => ?_)
                   go_simp
                   try (rw [if_neg (by intro h; simp [undef] at h)])
                   try split
                   all_goals
                     first
                     | (refine hK _ ?_
                        clear hK K)
                     | (apply Exists.intro
                        refine ⟨fun wq hwq => ?_, hK _ ?_⟩
                        · have hcq := hwq.cellS
                          go_simp
                          first
                          | exact ⟨Ext.refl _, rfl⟩
                        clear hK K))
          refine wpX_nil (fun wz hwz => ?_)
          have hRz := HRO.out.ext (hwr2.trans hwz)
          have hwz2 := hwr.trans (hwr2.trans hwz)
          have hO0 := OwnI.made0 wz
          have hE0 := Ext.new wz (.cells #[] 3)
          have hT := hRz.take S.length
          have hRd1 : Hid (co = S.length → RdI wz (some ⟨g, 0, none⟩) (S.drop S.length)) := fun h => by
            have h2 := hRz.drop (n := 0 + S.length) S.length co (by omega) rfl
            rwa [if_pos h] at h2
          have hRd2 : Hid (¬ co = S.length → RdI wz (some ⟨g, S.length, none⟩) (S.drop S.length)) := fun h => by
            have h2 := hRz.drop (n := 0 + S.length) S.length co (by omega) rfl
            rwa [if_neg h, Nat.zero_add] at h2
          have hSl := HL.out
          have htl : S.length = (S.take S.length).length := by rw [List.length_take]; omega
          have hdl : S.length - S.length = (S.drop S.length).length := by rw [List.length_drop]
          have ht5 : (S.take S.length).length ≤ 5 := by rw [List.length_take]; omega
          have hd5 : (S.drop S.length).length ≤ 5 := by rw [List.length_drop]; omega
          have HTL := hide htl
          have HDL := hide hdl
          clear hSl htl hdl c0 hRz
          have HR1 : Hid (co = S.length → RdI wz (some ⟨g, 0, none⟩) (S.drop S.length)) := hRd1
          clear hRd1
          by_cases hck : co = S.length
          all_goals
            try subst hck
            go_wp2_with (first
              | (at_builtin; refine wpList_appG wz.heap.size _ rfl (.tmp 43) (.tmp 46) rfl _ [] (S.take S.length) rfl (by exact hO0) hE0.size (some ⟨g, 0, none⟩) S.length _ HTL.out rfl (hT.ext hE0) (by rw [List.length_nil]; omega) ?_; intro v1 w1 hO1 hg1 _; have hE1 : Ext wz w1 := Ext.grown hE0 hg1 (ownsRow_block hO0))
              | (at_builtin; refine wpList_appI wz _ rfl (.tmp 48) (.tmp 50) rfl _ (S.take S.length) _ rfl (by exact hO1) hE1 rfl (by omega) ?_; intro v2 w2 hO2 hE2)
              | (at_builtin; refine wpList_appG wz.heap.size _ rfl (.tmp 52) (.tmp 55) rfl _ (S.take S.length ++ [(j : Int)]) (S.drop S.length) rfl (by exact hO2) hE2.size _ _ _ (by rw [List.length_drop]; omega) rfl ((HR1.out rfl).ext hE2) (by rw [List.length_append, List.length_singleton]; omega) ?_; intro v3 w3 hO3 hg3 _)
              | (at_builtin; refine wpList_appG wz.heap.size _ rfl (.tmp 52) (.tmp 55) rfl _ (S.take S.length ++ [(j : Int)]) (S.drop S.length) rfl (by exact hO2) hE2.size _ _ _ (by rw [List.length_drop]; omega) rfl ((hRd2.out (by omega)).ext hE2) (by rw [List.length_append, List.length_singleton]; omega) ?_; intro v3 w3 hO3 hg3 _))
            all_goals
              have hE3 : Ext wb w3 := Ext.grown (hwz2.trans hE2) hg3 (fun q hq => Nat.le_trans hwz2.size (ownsRow_block hO2 q hq))
              have hO3 := hO3.base hwz2.size
              rw [List.append_assoc, List.singleton_append, ← H2.out, ← HS.out] at hO3
              refine ⟨⟨j + 1, by omega, by go_num, hO3, ?_, hE3⟩, by simp [intOf]; omega⟩
              obtain ⟨a9, c9, e9, _, _, _, ho⟩ := hO3.val
              obtain ⟨g9, hg9, _⟩ := ho (fun e => by have := srk_len sc (j + 1); rw [e] at this; simp at this)
              exact ⟨g9, c9, by rw [e9, hg9]⟩
    · have hjn : j = n := by omega
      go_wp2
      go_ret
      rw [hjn] at hown
      rw [← HSC.out]
      exact ⟨_, rfl, hown.base hw.size, hw.trans hwr⟩

end Go.Proofs.Ytagepfgncbgncaa
