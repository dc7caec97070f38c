/- The program's own test of approvals. -/
import Derived.Test.YtacmabdeocmheaaFind
namespace Go.Proofs.Ytacmabdeocmheaa
open Go.RowKit

set_option maxRecDepth 100000 in
set_option maxHeartbeats 1000000 in
theorem has_impl (w : World) (sz x : Int) (v : Value) (hlo : 1 ≤ sz) (hhi : sz ≤ 6) :
    Calls Try.prog 117 #[.agg #[.int .i64 sz, v], .int .i64 x] w fun e w' => e = .returned (.bool (inR x 0 (topOf sz))) ∧ Ext w w' := by
  have htop := top_wrap64 hlo hhi
  go_enter Try.func117, Try.ntmps117
  go_wp2_with (go_at_call 160; refine (in_impl _ _ _ _).mono ?_; rintro e w1 ⟨rfl, hw1⟩; have hc1 := hw1.cellS; have hf1 := hw1.frozenS)
  go_ret
  exact ⟨rfl, hw1.a⟩

set_option maxRecDepth 100000 in
set_option maxHeartbeats 1000000 in
theorem okOne_impl (w : World) (sz : Int) (v : Value) (b off : Nat) (x : Int × Int) (hlo : 1 ≤ sz) (hhi : sz ≤ 6)
    (h0 : w.cell? ⟨b, off, none⟩ = some (.int .i64 sz)) (h1 : w.cell? ⟨b, off + 1, none⟩ = some v) :
    Calls Try.prog 162 #[.agg #[.int .i64 x.1, .int .i64 x.2], .pointer (some ⟨b, off, none⟩)] w fun e w' => e = .returned (.bool (!balOk sz x)) ∧ Ext w w' := by
  cases g1 : inR x.1 0 (topOf sz)
  all_goals
    go_enter Try.func162, Try.ntmps162
    go_wp2_with (first | (go_at_call 117; refine (has_impl _ _ _ _ hlo hhi).mono ?_; rintro e w1 ⟨rfl, hw1⟩; have hc1 := hw1.cellS; have hf1 := hw1.frozenS) | (go_at_call 160; refine (in_impl _ _ _ _).mono ?_; rintro e w1 ⟨rfl, hw1⟩; have hc1 := hw1.cellS; have hf1 := hw1.frozenS))
    go_ret
  · exact ⟨ret_bool (by simp [balOk, g1]), hw1.a⟩
  · exact ⟨ret_bool (by simp [balOk, g1]), (by repeat (first | exact Ext.refl _ | assumption | refine Ext.alloc ?_ _ | refine Ext.drew ?_ | refine Ext.trans ?_ (by assumption)))⟩

set_option maxRecDepth 100000 in
set_option maxHeartbeats 1000000 in
theorem ok_impl (w : World) (sz : Int) (a : Option Addr) (c : Nat) (bs : List (Int × Int)) (hR : RdP w a bs) :
    Calls Try.prog 46 #[.agg #[.int .i64 sz, .slice a bs.length c]] w fun e w' => e = .returned (.bool (appOk sz bs)) ∧ Ext w w' := by
  cases h1 : inR sz 1 6
  · go_enter Try.func46, Try.ntmps46
    go_wp2_with (go_at_call 160; refine (in_impl _ _ _ _).mono ?_; rintro e w1 ⟨rfl, hw1⟩; have hc1 := hw1.cellS; have hf1 := hw1.frozenS)
    go_ret
    exact ⟨ret_bool (by simp [appOk, h1]), hw1.a⟩
  obtain ⟨hlo, hhi⟩ := inR_iff.1 h1
  by_cases hl : bs.length ≤ 12
  · have HC := hide (fun (w1 : World) (hw1 : Ext (w.alloc (.cells #[.int .i64 sz, .slice a bs.length c] 32)) w1) =>
      containsFuncP 162 #[] #[.pointer (some ⟨w.heap.size, 0, none⟩)] (fun x => !balOk sz x) w1 a c bs (hR.ext hw1.a) (by omega) (fun _ _ => Try.call162 _ _)
        (fun x w' _ hw' => okOne_impl w' sz _ _ 0 x hlo hhi (hw'.keep (hw1.keep (new0 w _ _ _))) (hw'.keep (hw1.keep (new1 w _ _ _ _)))))
    go_enter Try.func46, Try.ntmps46
    go_wp2_with (go_at_call 160; refine (in_impl _ _ _ _).mono ?_; rintro e w1 ⟨rfl, hw1⟩; have hc1 := hw1.cellS; have hf1 := hw1.frozenS)
    refine (HC.out _ hw1).mono ?_
    rintro e w2 ⟨rfl, hw2⟩
    go_wp2
    go_ret
    exact ⟨ret_bool (by simp [appOk, h1, hl, any_not]), hw1.a.trans hw2⟩
  · go_enter Try.func46, Try.ntmps46
    go_wp2_with (go_at_call 160; refine (in_impl _ _ _ _).mono ?_; rintro e w1 ⟨rfl, hw1⟩; have hc1 := hw1.cellS; have hf1 := hw1.frozenS)
    go_ret
    exact ⟨ret_bool (by simp [appOk, hl]), hw1.a⟩

end Go.Proofs.Ytacmabdeocmheaa
