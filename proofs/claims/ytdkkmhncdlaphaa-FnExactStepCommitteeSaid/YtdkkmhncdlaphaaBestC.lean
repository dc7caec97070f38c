/- BestCommittee and CoverCommittee of both packages. -/
import Derived.Test.YtdkkmhncdlaphaaBest
import Derived.Test.YtdkkmhncdlaphaaFindI
namespace Go.Proofs.Ytdkkmhncdlaphaa
open Go.RowKit

theorem comm_ok {sz k s : Int} {bs : List (Int × Int)} (h : s ∈ commOf sz bs k) : appOk sz bs = true ∧ inR k 1 sz = true ∧ 0 ≤ s ∧ s ≤ topOf sz ∧ s ≤ 63 ∧ cntTo s 6 = k := by
  unfold commOf at h
  split at h
  · rename_i h1
    simp only [Bool.and_eq_true] at h1
    obtain ⟨hlo, hhi⟩ := ok_size h1.1
    have := top_le hlo hhi
    obtain ⟨a, b, c⟩ := commTo_mem h
    exact ⟨h1.1, h1.2, a, by omega, by omega, c⟩
  · cases h

def bestC (f : Int → Int) (sz : Int) (bs : List (Int × Int)) (k : Int) : Int := (bestO f (commOf sz bs k)).getD 0

set_option maxRecDepth 100000 in
set_option maxHeartbeats 4000000 in
theorem best_impl (w : World) (sz k : Int) (a : Option Addr) (c : Nat) (bs : List (Int × Int)) (hR : RdP w a bs) (_ : bs.length ≤ 2000000) :
    Calls Try.prog 35 #[.agg #[.int .i64 sz, .slice a bs.length c], .int .i64 k] w fun e w' => e = .returned (.int .i64 (bestC (scoreOf bs) sz bs k)) ∧ Ext w w' := by
  have q0 := new0 w (.int .i64 sz) [.slice a bs.length c] 29
  have q1 := new1 w (.int .i64 sz) (.slice a bs.length c) [] 29
  have hlen := commOf_len sz k bs
  go_enter Try.func35, Try.ntmps35
  go_wp2
  refine wp_region_O [0, 1, 3, 4, 2, 5, 6] (by kernel_rfl) rfl (by kernel_rfl) ?_
  repeat' (refine wpO_stepQ rfl (fun K hK => ?_)
           go_simp
           try (rw [if_neg (by intro h; simp [undef] at h)])
           try split
           all_goals
             first
             | (refine hK _ ?_
                clear hK K)
             | (apply Exists.intro
                refine ⟨fun wq hwq => ?_, hK _ ?_⟩
                · have hcq := hwq.cellS
                  go_simp
                  first
                  | exact ⟨Ext.refl _, rfl⟩
                clear hK K))
  refine wpO_stepS rfl (by kernel_rfl) (fun K hK wq hwq => ?_)
  go_simp
  refine (comm_impl _ _ _ _ _ _ (hR.ext (by repeat (first | exact Ext.refl _ | assumption | refine Ext.alloc ?_ _ | refine Ext.drew ?_ | refine Ext.trans ?_ (by assumption))))).mono ?_
  rintro e w3 ⟨v, rfl, hv, hw3⟩
  refine ⟨hw3, hK _ _ ?_⟩
  clear hK K
  have HB := hide (fun (w' : World) (hw' : Ext w3 w') => bestOf_impl 64 #[.agg #[.int .i64 sz, .slice a bs.length c]] #[] (scoreOf bs) w' v w3.heap.size _ (hv.fr.rdB.ext hw') (by omega) (fun _ _ => Try.call64 _ _)
    (fun x w2 hx hw2 => score_impl w2 sz x a c bs (hR.ext (by repeat (first | exact Ext.refl _ | assumption | refine Ext.alloc ?_ _ | refine Ext.drew ?_ | refine Ext.trans ?_ (by assumption)))) (small_of (comm_ok hx).1) (comm_ok hx).2.2.1 (comm_ok hx).2.2.2.2.1))
  repeat' (refine wpO_stepQ rfl (fun K hK => ?_)
           go_simp
           try (rw [if_neg (by intro h; simp [undef] at h)])
           try split
           all_goals
             first
             | (refine hK _ ?_
                clear hK K)
             | (apply Exists.intro
                refine ⟨fun wq hwq => ?_, hK _ ?_⟩
                · have hcq := hwq.cellS
                  go_simp
                  first
                  | exact ⟨Ext.refl _, rfl⟩
                  | exact ⟨Ext.refl _, HB.out _ (by assumption)⟩
                clear hK K))
  refine wpO_nil (fun wz hwz => ?_)
  go_wp2
  go_ret
  exact ⟨rfl, (by repeat (first | exact Ext.refl _ | assumption | refine Ext.alloc ?_ _ | refine Ext.drew ?_ | refine Ext.trans ?_ (by assumption)))⟩

/-- How many voters a committee covers. -/
def coverOf (bs : List (Int × Int)) (set : Int) : Int := sumIf (fun s => landI set s != 0) bs

set_option maxRecDepth 100000 in
set_option maxHeartbeats 4000000 in
theorem coverOne (w : World) (b off : Nat) (set s : Int) (h0 : w.cell? ⟨b, off, none⟩ = some (.int .i64 set)) :
    Calls Try.prog 70 #[.int .i64 s, .pointer (some ⟨b, off, none⟩)] w fun e w' => e = .returned (.bool (landI set s != 0)) ∧ Ext w w' := by
  go_enter Try.func70, Try.ntmps70
  go_wp2
  go_ret
  exact ⟨rfl, Ext.refl _⟩

set_option maxRecDepth 100000 in
set_option maxHeartbeats 4000000 in
theorem cover1_impl (w : World) (sz set : Int) (a : Option Addr) (c b off : Nat) (bs : List (Int × Int)) (hR : RdP w a bs) (hS : Small bs)
    (h0 : w.cell? ⟨b, off, none⟩ = some (.int .i64 sz)) (h1 : w.cell? ⟨b, off + 1, none⟩ = some (.slice a bs.length c)) :
    Calls Try.prog 69 #[.int .i64 set, .pointer (some ⟨b, off, none⟩)] w fun e w' => e = .returned (.int .i64 (coverOf bs set)) ∧ Ext w w' := by
  have HV := hide (fun (w' : World) (hw' : Ext (w.alloc (.cells #[.int .i64 set] 3)) w') =>
        voters_impl 70 #[] #[.pointer (some ⟨w.heap.size, 0, none⟩)] (fun s => landI set s != 0) w' sz a c bs (hR.ext (by repeat (first | exact Ext.refl _ | assumption | refine Ext.alloc ?_ _ | refine Ext.drew ?_ | refine Ext.trans ?_ (by assumption)))) hS (fun _ _ => Try.call70 _ _)
          (fun x w2 hx hw2 => coverOne w2 w.heap.size 0 set x.1 (hw2.keep (hw'.keep (new0 w _ _ _)))))
  go_enter Try.func69, Try.ntmps69
  go_wp2_with (go_at_call 51; refine (HV.out _ (Ext.refl _)).mono ?_; rintro e w1 ⟨rfl, hw1⟩)
  go_ret
  exact ⟨rfl, (by repeat (first | exact Ext.refl _ | assumption | refine Ext.alloc ?_ _ | refine Ext.drew ?_ | refine Ext.trans ?_ (by assumption)))⟩

set_option maxRecDepth 100000 in
set_option maxHeartbeats 4000000 in
theorem cover_impl (w : World) (sz k : Int) (a : Option Addr) (c : Nat) (bs : List (Int × Int)) (hR : RdP w a bs) (_ : bs.length ≤ 2000000) :
    Calls Try.prog 37 #[.agg #[.int .i64 sz, .slice a bs.length c], .int .i64 k] w fun e w' => e = .returned (.int .i64 (bestC (coverOf bs) sz bs k)) ∧ Ext w w' := by
  have q0 := new0 w (.int .i64 sz) [.slice a bs.length c] 29
  have q1 := new1 w (.int .i64 sz) (.slice a bs.length c) [] 29
  have hlen := commOf_len sz k bs
  go_enter Try.func37, Try.ntmps37
  go_wp2_with fail
  refine (comm_impl _ _ _ _ _ _ (hR.ext (by repeat (first | exact Ext.refl _ | assumption | refine Ext.alloc ?_ _ | refine Ext.drew ?_ | refine Ext.trans ?_ (by assumption))))).mono ?_
  rintro e w3 ⟨v, rfl, hv, hw3⟩
  have q0 := hw3.keep q0
  have q1 := hw3.keep q1
  have HB := hide (fun (w' : World) (hw' : Ext w3 w') => bestOf_impl 69 #[] #[.pointer (some ⟨w.heap.size, 0, none⟩)] (coverOf bs) w' v w3.heap.size _ (hv.fr.rdB.ext hw') (by omega) (fun _ _ => Try.call69 _ _)
    (fun x w2 hx hw2 => cover1_impl w2 sz x a c w.heap.size 0 bs (hR.ext (by repeat (first | exact Ext.refl _ | assumption | refine Ext.alloc ?_ _ | refine Ext.drew ?_ | refine Ext.trans ?_ (by assumption)))) (small_of (comm_ok hx).1) (hw2.keep (hw'.keep q0)) (hw2.keep (hw'.keep q1))))
  go_wp2_with (go_at_call 63; refine (HB.out _ (Ext.refl _)).mono ?_; rintro e w1 ⟨rfl, hw1⟩)
  go_ret
  exact ⟨rfl, (by repeat (first | exact Ext.refl _ | assumption | refine Ext.alloc ?_ _ | refine Ext.drew ?_ | refine Ext.trans ?_ (by assumption)))⟩

set_option maxRecDepth 100000 in
set_option maxHeartbeats 4000000 in
theorem coverL_spec (w : World) (sz set : Int) (a : Option Addr) (c : Nat) (bs : List (Int × Int)) (hR : RdP w a bs) (hS : Small bs) :
    Calls Try.prog 68 #[.agg #[.int .i64 sz, .slice a bs.length c], .int .i64 set] w fun e w' => e = .returned (.int .i64 (coverOf bs set)) ∧ Ext w w' := by
  have HS := hide hS
  have hl := hS.1
  clear hS
  go_enter Try.func68, Try.ntmps68
  go_wp2_with fail
  go_loopw [5, 7, 11] (fun s _ i wr => ∃ k : Nat, k ≤ bs.length ∧ i = .int .i64 k ∧ s = .int .i64 (sumIf (fun s => landI set s != 0) (bs.take k)) ∧ Ext w wr) (fun _ _ i _ => bs.length - (intOf i).toNat)
  case atStart => exact ⟨0, Nat.zero_le _, rfl, rfl, (by repeat (first | exact Ext.refl _ | assumption | refine Ext.alloc ?_ _ | refine Ext.drew ?_ | refine Ext.trans ?_ (by assumption)))⟩
  case round =>
    obtain ⟨k, hk, rfl, rfl, hwr⟩ := hrel
    obtain ⟨b1, b2⟩ := sumIf_bd HS.out k hk (p := fun s => landI set s != 0)
    by_cases hlt : k < bs.length
    · obtain ⟨x, hx⟩ := at_of_lt hlt
      obtain ⟨b, off, rfl, c0, c1⟩ := (hR.ext hwr).at_ hx
      obtain ⟨_, _, x1, x2⟩ := HS.out.2 x (List.mem_of_getElem? hx)
      have HX := hide hx
      clear hx
      have hcm : bits BinOp.and IntKind.i64 x.1 set = landI set x.1 := landI_comm _ _
      cases hp : (landI set x.1 != 0)
      all_goals go_wp2
      · exact ⟨⟨k + 1, by omega, by go_num, by rw [sumIf_at HX.out, hp]; simp, (by repeat (first | exact Ext.refl _ | assumption | refine Ext.alloc ?_ _ | refine Ext.drew ?_ | refine Ext.trans ?_ (by assumption)))⟩, by simp [intOf]; omega⟩
      · exact ⟨⟨k + 1, by omega, by go_num, by rw [sumIf_at HX.out, hp]; simp, (by repeat (first | exact Ext.refl _ | assumption | refine Ext.alloc ?_ _ | refine Ext.drew ?_ | refine Ext.trans ?_ (by assumption)))⟩, by simp [intOf]; omega⟩
    · go_wp2
      go_ret
      exact ⟨ret_int (by rw [List.take_of_length_le (by omega)]; rfl), hwr⟩

theorem best_pos {f : Int → Int} {xs : List Int} (h : ∀ x ∈ xs, x ≠ 0) (k : Nat) : ((bestO f (xs.take k)).getD 0 = 0 ↔ bestO f (xs.take k) = none) := by
  constructor
  · intro h0
    cases hb : bestO f (xs.take k) with
    | none => rfl
    | some y =>
      rw [hb] at h0
      have hy := (bestO_congr (f := f) (g := f) (xs := xs.take k) (fun _ _ => rfl)).2 y hb
      exact absurd h0 (h y (List.mem_of_mem_take hy))
  · intro h0; rw [h0]; rfl

set_option maxRecDepth 100000 in
set_option maxHeartbeats 4000000 in
theorem best_spec (w : World) (sz k : Int) (a : Option Addr) (c : Nat) (bs : List (Int × Int)) (hR : RdP w a bs) (_ : bs.length ≤ 2000000) :
    Calls Try.prog 34 #[.agg #[.int .i64 sz, .slice a bs.length c], .int .i64 k] w fun e w' => e = .returned (.int .i64 (bestC (scoreOf bs) sz bs k)) ∧ Ext w w' := by
  have q0 := new0 w (.int .i64 sz) [.slice a bs.length c] 29
  have q1 := new1 w (.int .i64 sz) (.slice a bs.length c) [] 29
  have hlen := commOf_len sz k bs
  go_enter Try.func34, Try.ntmps34
  go_wp2_with fail
  refine (comm_spec _ _ _ _ _ _ (hR.ext (by repeat (first | exact Ext.refl _ | assumption | refine Ext.alloc ?_ _ | refine Ext.drew ?_ | refine Ext.trans ?_ (by assumption))))).mono ?_
  rintro e w3 ⟨v, rfl, hv, hw3⟩
  have q0 := hw3.keep q0
  have q1 := hw3.keep q1
  have hw : Ext w w3 := (by repeat (first | exact Ext.refl _ | assumption | refine Ext.alloc ?_ _ | refine Ext.drew ?_ | refine Ext.trans ?_ (by assumption)))
  obtain ⟨a3, c3, rfl, _, _, hRv, _⟩ := hv.val
  obtain ⟨xs, hxs⟩ : ∃ xs, xs = commOf sz bs k := ⟨_, rfl⟩
  have hmem : Hid (∀ x ∈ xs, appOk sz bs = true ∧ 0 ≤ x ∧ x ≤ 63 ∧ x ≠ 0) := fun x hx => by
    subst hxs
    obtain ⟨h1, h2, h3, _, h5, h6⟩ := comm_ok hx
    refine ⟨h1, h3, h5, ?_⟩
    rintro rfl
    have := (inR_iff.1 h2).1
    have h0 : cntTo 0 6 = 0 := by decide
    omega
  have hres : Hid (bestC (scoreOf bs) sz bs k = (bestO (scoreOf bs) xs).getD 0) := by subst hxs; rfl
  rw [← hxs] at hRv hlen ⊢
  clear hxs hv
  go_wp2_with fail
  go_loopw [5, 7, 12] (fun p _ i wr => ∃ m : Nat, m ≤ xs.length ∧ i = .int .i64 m ∧ Ext w3 wr ∧ p = .int .i64 ((bestO (scoreOf bs) (xs.take m)).getD 0)) (fun _ _ i _ => xs.length - (intOf i).toNat)
  case atStart => exact ⟨0, Nat.zero_le _, rfl, Ext.refl _, rfl⟩
  case round =>
    obtain ⟨m, hm, rfl, hwr, rfl⟩ := hrel
    have q0 := hwr.keep q0
    have q1 := hwr.keep q1
    by_cases hlt : m < xs.length
    · obtain ⟨x, hx⟩ := at_of_lt hlt
      obtain ⟨b, off, rfl, c0⟩ := (hRv.ext hwr).at_ hx
      obtain ⟨hok, x0, x63, _⟩ := hmem.out x (List.mem_of_getElem? hx)
      have HX := hide hx
      clear hx
      have HSm := hide (small_of hok)
      have hpos := best_pos (f := scoreOf bs) (fun x hx => (hmem.out x hx).2.2.2) m
      cases hb : bestO (scoreOf bs) (xs.take m) with
      | none =>
        have HB := hide hb
        clear hb hpos
        simp only [Option.getD_none]
        go_wp2
        refine wp_region_X (by kernel_rfl) (by kernel_rfl) ?_
        repeat' (refine wpX_stepQ (fun K hK => ?_)
                 go_simp
                 try (rw [if_neg (by intro h; simp [undef] at h)])
                 try split
                 all_goals
                   first
                   | (refine hK _ ?_
                      clear hK K)
                   | (apply Exists.intro
                      refine ⟨fun wq hwq => ?_, hK _ ?_⟩
                      · have hcq := hwq.cellS
                        go_simp
                        first
                        | exact ⟨Ext.refl _, rfl⟩
                      clear hK K))
        refine wpX_nil (fun wz hwz => ?_)
        go_wp2
        exact ⟨⟨m + 1, by omega, by go_num, (by repeat (first | exact Ext.refl _ | assumption | refine Ext.alloc ?_ _ | refine Ext.drew ?_ | refine Ext.trans ?_ (by assumption))), by rw [bestO_at HX.out, HB.out]; rfl⟩, by simp [intOf]; omega⟩
      | some y =>
        have hy := (bestO_congr (f := scoreOf bs) (g := scoreOf bs) (xs := xs.take m) (fun _ _ => rfl)).2 y hb
        obtain ⟨_, y0, y63, yne⟩ := hmem.out y (List.mem_of_mem_take hy)
        have hyb : (y == 0) = false := by simpa using yne
        have HB := hide hb
        clear hb hpos hy yne
        simp only [Option.getD_some]
        cases hgt : decide (scoreOf bs y < scoreOf bs x)
        · go_wp2
          refine wp_region_X (by kernel_rfl) (by kernel_rfl) ?_
          repeat' (refine wpX_stepQ (fun K hK => ?_)
                   go_simp
                   try (rw [if_neg (by intro h; simp [undef] at h)])
                   try split
                   all_goals
                     first
                     | (refine hK _ ?_
                        clear hK K)
                     | (apply Exists.intro
                        refine ⟨fun wq hwq => ?_, hK _ ?_⟩
                        · have hcq := hwq.cellS
                          go_simp
                          first
                          | exact ⟨Ext.refl _, rfl⟩
                          | exact ⟨Ext.refl _, score_spec _ _ _ _ _ _ (hR.ext (by repeat (first | exact Ext.refl _ | assumption | refine Ext.alloc ?_ _ | refine Ext.drew ?_ | refine Ext.trans ?_ (by assumption)))) HSm.out x0 x63⟩
                          | exact ⟨Ext.refl _, score_spec _ _ _ _ _ _ (hR.ext (by repeat (first | exact Ext.refl _ | assumption | refine Ext.alloc ?_ _ | refine Ext.drew ?_ | refine Ext.trans ?_ (by assumption)))) HSm.out y0 y63⟩
                        clear hK K))
          refine wpX_nil (fun wz hwz => ?_)
          go_wp2
          refine ⟨⟨m + 1, by omega, by go_num, (by repeat (first | exact Ext.refl _ | assumption | refine Ext.alloc ?_ _ | refine Ext.drew ?_ | refine Ext.trans ?_ (by assumption))), ?_⟩, by simp [intOf]; omega⟩
          rw [bestO_at HX.out, HB.out]
          simp only [bestStep]
          rw [if_neg (of_decide_eq_false hgt)]
          rfl
        · go_wp2
          refine wp_region_X (by kernel_rfl) (by kernel_rfl) ?_
          repeat' (refine wpX_stepQ (fun K hK => ?_)
                   go_simp
                   try (rw [if_neg (by intro h; simp [undef] at h)])
                   try split
                   all_goals
                     first
                     | (refine hK _ ?_
                        clear hK K)
                     | (apply Exists.intro
                        refine ⟨fun wq hwq => ?_, hK _ ?_⟩
                        · have hcq := hwq.cellS
                          go_simp
                          first
                          | exact ⟨Ext.refl _, rfl⟩
                          | exact ⟨Ext.refl _, score_spec _ _ _ _ _ _ (hR.ext (by repeat (first | exact Ext.refl _ | assumption | refine Ext.alloc ?_ _ | refine Ext.drew ?_ | refine Ext.trans ?_ (by assumption)))) HSm.out x0 x63⟩
                          | exact ⟨Ext.refl _, score_spec _ _ _ _ _ _ (hR.ext (by repeat (first | exact Ext.refl _ | assumption | refine Ext.alloc ?_ _ | refine Ext.drew ?_ | refine Ext.trans ?_ (by assumption)))) HSm.out y0 y63⟩
                        clear hK K))
          refine wpX_nil (fun wz hwz => ?_)
          go_wp2
          refine ⟨⟨m + 1, by omega, by go_num, (by repeat (first | exact Ext.refl _ | assumption | refine Ext.alloc ?_ _ | refine Ext.drew ?_ | refine Ext.trans ?_ (by assumption))), ?_⟩, by simp [intOf]; omega⟩
          rw [bestO_at HX.out, HB.out]
          simp only [bestStep]
          rw [if_pos (of_decide_eq_true hgt)]
          rfl
    · obtain rfl : m = xs.length := by omega
      go_wp2
      go_ret
      exact ⟨ret_int (by rw [List.take_length, hres.out]), (by repeat (first | exact Ext.refl _ | assumption | refine Ext.alloc ?_ _ | refine Ext.drew ?_ | refine Ext.trans ?_ (by assumption)))⟩

set_option maxRecDepth 100000 in
set_option maxHeartbeats 4000000 in
theorem cover_spec (w : World) (sz k : Int) (a : Option Addr) (c : Nat) (bs : List (Int × Int)) (hR : RdP w a bs) (_ : bs.length ≤ 2000000) :
    Calls Try.prog 36 #[.agg #[.int .i64 sz, .slice a bs.length c], .int .i64 k] w fun e w' => e = .returned (.int .i64 (bestC (coverOf bs) sz bs k)) ∧ Ext w w' := by
  have q0 := new0 w (.int .i64 sz) [.slice a bs.length c] 29
  have q1 := new1 w (.int .i64 sz) (.slice a bs.length c) [] 29
  have hlen := commOf_len sz k bs
  go_enter Try.func36, Try.ntmps36
  go_wp2_with fail
  refine (comm_spec _ _ _ _ _ _ (hR.ext (by repeat (first | exact Ext.refl _ | assumption | refine Ext.alloc ?_ _ | refine Ext.drew ?_ | refine Ext.trans ?_ (by assumption))))).mono ?_
  rintro e w3 ⟨v, rfl, hv, hw3⟩
  have q0 := hw3.keep q0
  have q1 := hw3.keep q1
  have hw : Ext w w3 := (by repeat (first | exact Ext.refl _ | assumption | refine Ext.alloc ?_ _ | refine Ext.drew ?_ | refine Ext.trans ?_ (by assumption)))
  obtain ⟨a3, c3, rfl, _, _, hRv, _⟩ := hv.val
  obtain ⟨xs, hxs⟩ : ∃ xs, xs = commOf sz bs k := ⟨_, rfl⟩
  have hmem : Hid (∀ x ∈ xs, appOk sz bs = true ∧ 0 ≤ x ∧ x ≤ 63 ∧ x ≠ 0) := fun x hx => by
    subst hxs
    obtain ⟨h1, h2, h3, _, h5, h6⟩ := comm_ok hx
    refine ⟨h1, h3, h5, ?_⟩
    rintro rfl
    have := (inR_iff.1 h2).1
    have h0 : cntTo 0 6 = 0 := by decide
    omega
  have hres : Hid (bestC (coverOf bs) sz bs k = (bestO (coverOf bs) xs).getD 0) := by subst hxs; rfl
  rw [← hxs] at hRv hlen ⊢
  clear hxs hv
  go_wp2_with fail
  go_loopw [5, 7, 12] (fun p _ i wr => ∃ m : Nat, m ≤ xs.length ∧ i = .int .i64 m ∧ Ext w3 wr ∧ p = .int .i64 ((bestO (coverOf bs) (xs.take m)).getD 0)) (fun _ _ i _ => xs.length - (intOf i).toNat)
  case atStart => exact ⟨0, Nat.zero_le _, rfl, Ext.refl _, rfl⟩
  case round =>
    obtain ⟨m, hm, rfl, hwr, rfl⟩ := hrel
    have q0 := hwr.keep q0
    have q1 := hwr.keep q1
    by_cases hlt : m < xs.length
    · obtain ⟨x, hx⟩ := at_of_lt hlt
      obtain ⟨b, off, rfl, c0⟩ := (hRv.ext hwr).at_ hx
      obtain ⟨hok, x0, x63, _⟩ := hmem.out x (List.mem_of_getElem? hx)
      have HX := hide hx
      clear hx
      have HSm := hide (small_of hok)
      have hpos := best_pos (f := coverOf bs) (fun x hx => (hmem.out x hx).2.2.2) m
      cases hb : bestO (coverOf bs) (xs.take m) with
      | none =>
        have HB := hide hb
        clear hb hpos
        simp only [Option.getD_none]
        go_wp2
        refine wp_region_X (by kernel_rfl) (by kernel_rfl) ?_
        repeat' (refine wpX_stepQ (fun K hK => ?_)
                 go_simp
                 try (rw [if_neg (by intro h; simp [undef] at h)])
                 try split
                 all_goals
                   first
                   | (refine hK _ ?_
                      clear hK K)
                   | (apply Exists.intro
                      refine ⟨fun wq hwq => ?_, hK _ ?_⟩
                      · have hcq := hwq.cellS
                        go_simp
                        first
                        | exact ⟨Ext.refl _, rfl⟩
                      clear hK K))
        refine wpX_nil (fun wz hwz => ?_)
        go_wp2
        exact ⟨⟨m + 1, by omega, by go_num, (by repeat (first | exact Ext.refl _ | assumption | refine Ext.alloc ?_ _ | refine Ext.drew ?_ | refine Ext.trans ?_ (by assumption))), by rw [bestO_at HX.out, HB.out]; rfl⟩, by simp [intOf]; omega⟩
      | some y =>
        have hy := (bestO_congr (f := coverOf bs) (g := coverOf bs) (xs := xs.take m) (fun _ _ => rfl)).2 y hb
        obtain ⟨_, y0, y63, yne⟩ := hmem.out y (List.mem_of_mem_take hy)
        have hyb : (y == 0) = false := by simpa using yne
        have HB := hide hb
        clear hb hpos hy yne
        simp only [Option.getD_some]
        cases hgt : decide (coverOf bs y < coverOf bs x)
        · go_wp2
          refine wp_region_X (by kernel_rfl) (by kernel_rfl) ?_
          repeat' (refine wpX_stepQ (fun K hK => ?_)
                   go_simp
                   try (rw [if_neg (by intro h; simp [undef] at h)])
                   try split
                   all_goals
                     first
                     | (refine hK _ ?_
                        clear hK K)
                     | (apply Exists.intro
                        refine ⟨fun wq hwq => ?_, hK _ ?_⟩
                        · have hcq := hwq.cellS
                          go_simp
                          first
                          | exact ⟨Ext.refl _, rfl⟩
                          | exact ⟨Ext.refl _, coverL_spec _ _ _ _ _ _ (hR.ext (by repeat (first | exact Ext.refl _ | assumption | refine Ext.alloc ?_ _ | refine Ext.drew ?_ | refine Ext.trans ?_ (by assumption)))) HSm.out⟩
                          | exact ⟨Ext.refl _, coverL_spec _ _ _ _ _ _ (hR.ext (by repeat (first | exact Ext.refl _ | assumption | refine Ext.alloc ?_ _ | refine Ext.drew ?_ | refine Ext.trans ?_ (by assumption)))) HSm.out⟩
                        clear hK K))
          refine wpX_nil (fun wz hwz => ?_)
          go_wp2
          refine ⟨⟨m + 1, by omega, by go_num, (by repeat (first | exact Ext.refl _ | assumption | refine Ext.alloc ?_ _ | refine Ext.drew ?_ | refine Ext.trans ?_ (by assumption))), ?_⟩, by simp [intOf]; omega⟩
          rw [bestO_at HX.out, HB.out]
          simp only [bestStep]
          rw [if_neg (of_decide_eq_false hgt)]
          rfl
        · go_wp2
          refine wp_region_X (by kernel_rfl) (by kernel_rfl) ?_
          repeat' (refine wpX_stepQ (fun K hK => ?_)
                   go_simp
                   try (rw [if_neg (by intro h; simp [undef] at h)])
                   try split
                   all_goals
                     first
                     | (refine hK _ ?_
                        clear hK K)
                     | (apply Exists.intro
                        refine ⟨fun wq hwq => ?_, hK _ ?_⟩
                        · have hcq := hwq.cellS
                          go_simp
                          first
                          | exact ⟨Ext.refl _, rfl⟩
                          | exact ⟨Ext.refl _, coverL_spec _ _ _ _ _ _ (hR.ext (by repeat (first | exact Ext.refl _ | assumption | refine Ext.alloc ?_ _ | refine Ext.drew ?_ | refine Ext.trans ?_ (by assumption)))) HSm.out⟩
                          | exact ⟨Ext.refl _, coverL_spec _ _ _ _ _ _ (hR.ext (by repeat (first | exact Ext.refl _ | assumption | refine Ext.alloc ?_ _ | refine Ext.drew ?_ | refine Ext.trans ?_ (by assumption)))) HSm.out⟩
                        clear hK K))
          refine wpX_nil (fun wz hwz => ?_)
          go_wp2
          refine ⟨⟨m + 1, by omega, by go_num, (by repeat (first | exact Ext.refl _ | assumption | refine Ext.alloc ?_ _ | refine Ext.drew ?_ | refine Ext.trans ?_ (by assumption))), ?_⟩, by simp [intOf]; omega⟩
          rw [bestO_at HX.out, HB.out]
          simp only [bestStep]
          rw [if_pos (of_decide_eq_true hgt)]
          rfl
    · obtain rfl : m = xs.length := by omega
      go_wp2
      go_ret
      exact ⟨ret_int (by rw [List.take_length, hres.out]), (by repeat (first | exact Ext.refl _ | assumption | refine Ext.alloc ?_ _ | refine Ext.drew ?_ | refine Ext.trans ?_ (by assumption)))⟩
end Go.Proofs.Ytdkkmhncdlaphaa
