/- Which approvals are valid: both packages' tests answer as one plain function. -/
import Derived.Test.YtacmabdeocmheaaSmall
namespace Go.Proofs.Ytacmabdeocmheaa
open Go.RowKit

def balOk (sz : Int) (x : Int × Int) : Bool := inR x.1 0 (topOf sz) && inR x.2 1 1000
def appOk (sz : Int) (bs : List (Int × Int)) : Bool := inR sz 1 6 && (decide (bs.length ≤ 12) && bs.all (balOk sz))

set_option maxRecDepth 100000 in
set_option maxHeartbeats 1000000 in
theorem ok_spec (w : World) (sz : Int) (a : Option Addr) (c : Nat) (bs : List (Int × Int)) (hR : RdP w a bs) :
    Calls Try.prog 112 #[.agg #[.int .i64 sz, .slice a bs.length c]] w fun e w' => e = .returned (.bool (appOk sz bs)) ∧ Ext w w' := by
  cases h1 : inR sz 1 6
  · go_enter Try.func112, Try.ntmps112
    go_wp2_with (go_at_call 113; refine (in_spec _ _ _ _).mono ?_; rintro e w1 ⟨rfl, hw1⟩; have hc1 := hw1.cellS; have hf1 := hw1.frozenS)
    go_ret
    exact ⟨ret_bool (by simp [appOk, h1]), hw1.a⟩
  obtain ⟨hlo, hhi⟩ := inR_iff.1 h1
  by_cases hl : bs.length ≤ 12
  · have htop := top_wrap hlo hhi
    go_enter Try.func112, Try.ntmps112
    go_wp2_with (go_at_call 113; refine (in_spec _ _ _ _).mono ?_; rintro e w1 ⟨rfl, hw1⟩; have hc1 := hw1.cellS; have hf1 := hw1.frozenS)
    go_loopw [4, 18] (fun _ i wr => ∃ k : Nat, k ≤ bs.length ∧ i = .int .i64 k ∧ (bs.take k).all (balOk sz) = true ∧ Ext w1 wr) (fun _ i _ => bs.length - (intOf i).toNat)
    case atStart => exact ⟨0, Nat.zero_le _, rfl, rfl, Ext.refl _⟩
    case round =>
      obtain ⟨k, hk, rfl, hall, hwr⟩ := hrel
      have q0 := hwr.keep (hw1.keep (new0 w _ _ _))
      by_cases hlt : k < bs.length
      · obtain ⟨x, hx⟩ := at_of_lt hlt
        obtain ⟨b, off, rfl, c0, c1⟩ := (hR.ext (hw1.a.trans hwr)).at_ hx
        cases g1 : inR x.1 0 (topOf sz)
        · go_wp2
          refine wp_region_X (by kernel_rfl) (by kernel_rfl) ?_
          repeat' (refine wpX_stepQ (fun K hK => ?_)
                   go_simp
                   try (rw [if_neg (by intro h; simp [undef] at h)])
                   try split
                   all_goals
                     first
                     | (refine hK _ ?_
                        clear hK K)
                     | (apply Exists.intro
                        refine ⟨fun wq hwq => ?_, hK _ ?_⟩
                        · have hcq := hwq.cellS
                          go_simp
                          first
                          | exact ⟨Ext.refl _, rfl⟩
                          | exact ⟨Ext.refl _, in_spec _ _ _ _⟩
                        clear hK K))
          refine wpX_nil (fun wz hwz => ?_)
          go_wp2
          go_ret
          exact ⟨ret_bool (by simp [appOk, all_false (f := balOk sz) hx (by simp [balOk, g1])]), (hw1.a.trans hwr).trans hwz.a⟩
        cases g2 : inR x.2 1 1000
        · go_wp2
          refine wp_region_X (by kernel_rfl) (by kernel_rfl) ?_
          repeat' (refine wpX_stepQ (fun K hK => ?_)
                   go_simp
                   try (rw [if_neg (by intro h; simp [undef] at h)])
                   try split
                   all_goals
                     first
                     | (refine hK _ ?_
                        clear hK K)
                     | (apply Exists.intro
                        refine ⟨fun wq hwq => ?_, hK _ ?_⟩
                        · have hcq := hwq.cellS
                          go_simp
                          first
                          | exact ⟨Ext.refl _, rfl⟩
                          | exact ⟨Ext.refl _, in_spec _ _ _ _⟩
                        clear hK K))
          refine wpX_nil (fun wz hwz => ?_)
          go_wp2
          go_ret
          exact ⟨ret_bool (by simp [appOk, all_false (f := balOk sz) hx (by simp [balOk, g2])]), (hw1.a.trans hwr).trans hwz.a⟩
        · go_wp2
          refine wp_region_X (by kernel_rfl) (by kernel_rfl) ?_
          repeat' (refine wpX_stepQ (fun K hK => ?_)
                   go_simp
                   try (rw [if_neg (by intro h; simp [undef] at h)])
                   try split
                   all_goals
                     first
                     | (refine hK _ ?_
                        clear hK K)
                     | (apply Exists.intro
                        refine ⟨fun wq hwq => ?_, hK _ ?_⟩
                        · have hcq := hwq.cellS
                          go_simp
                          first
                          | exact ⟨Ext.refl _, rfl⟩
                          | exact ⟨Ext.refl _, in_spec _ _ _ _⟩
                        clear hK K))
          refine wpX_nil (fun wz hwz => ?_)
          go_wp2
          exact ⟨⟨k + 1, by omega, by go_num, (all_take hx hall).trans (by simp [balOk, g1, g2]), hwr.trans hwz.a⟩, by simp [intOf]; omega⟩
      · go_wp2
        go_ret
        exact ⟨ret_bool (by simp [appOk, h1, hl, all_whole (by omega) hall]), hw1.a.trans hwr⟩
  · go_enter Try.func112, Try.ntmps112
    go_wp2_with (go_at_call 113; refine (in_spec _ _ _ _).mono ?_; rintro e w1 ⟨rfl, hw1⟩; have hc1 := hw1.cellS; have hf1 := hw1.frozenS)
    go_ret
    exact ⟨ret_bool (by simp [appOk, hl]), hw1.a⟩

end Go.Proofs.Ytacmabdeocmheaa
