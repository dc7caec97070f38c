/- Both parts of a profile have the same winner and the whole has another one, of the program and of the spec. -/
import Derived.Test.YtblkbdfndbpndaaGreatWin
import Derived.Test.YtblkbdfndbpndaaGreatMod
import Derived.Test.YtblkbdfndbpndaaGreatCk26
namespace Go.Proofs.YtblkbdfndbpndaaGreat
open Go.RowKit

set_option maxRecDepth 100000 in
set_option maxHeartbeats 4000000 in
theorem spl_impl (w : World) (rule sz : Int) (a : Option Addr) (c : Nat) (vs : List Vt) (k : Int) (hc : vs.length ≤ c) (hR : RdV w a vs) :
    Calls Tryz.prog 27 #[.int .i64 rule, .agg #[.int .i64 sz, .slice a vs.length c], .int .i64 k] w fun e w' => e = .returned (.bool (splO rule sz vs k)) ∧ Ext w w' := by
  have q0 := new0 w (.int .i64 sz) [.slice a vs.length c] 29
  have q1 := new1 w (.int .i64 sz) (.slice a vs.length c) [] 29
  by_cases h1 : winB rule sz vs < 0
  · have HF : Hid (splO rule sz vs k = false) := hide (by unfold splO; rw [decide_eq_false (by omega)]; rfl)
    go_enter Tryz.func27, Tryz.ntmps27
    go_wp2_with (go_at_call 18; refine (winb_impl _ _ _ _ _ _ (hR.ext (by repeat (first | exact Ext.refl _ | assumption | refine Ext.alloc ?_ _ | refine Ext.drew ?_ | refine Ext.trans ?_ (by assumption))))).mono ?_; rintro e w1 ⟨rfl, hw1⟩; have q0 := Ext.keep (w' := w1) (by repeat (first | exact Ext.refl _ | assumption | refine Ext.alloc ?_ _ | refine Ext.drew ?_ | refine Ext.trans ?_ (by assumption))) q0; have q1 := Ext.keep (w' := w1) (by repeat (first | exact Ext.refl _ | assumption | refine Ext.alloc ?_ _ | refine Ext.drew ?_ | refine Ext.trans ?_ (by assumption))) q1)
    go_ret
    exact ⟨ret_bool HF.out.symm, (by repeat (first | exact Ext.refl _ | assumption | refine Ext.alloc ?_ _ | refine Ext.drew ?_ | refine Ext.trans ?_ (by assumption)))⟩
  obtain ⟨h0, _⟩ := winB_pos (rule := rule) (sz := sz) (vs := vs) (by omega)
  have hvl := (prof_small h0).1
  clear h0
  have y0 : wrap64 ((vs.length : Int) - 1) = (vs.length : Int) - 1 := IntWalk.wrap64_in _ (by omega)
  have y1 : IntKind.i64.wrap ((vs.length : Int) - 1) = (vs.length : Int) - 1 := IntWalk.i64_in _ (by omega)
  cases h2 : inR k 1 ((vs.length : Int) - 1)
  · have HF : Hid (splO rule sz vs k = false) := hide (by unfold splO; rw [h2]; simp)
    go_enter Tryz.func27, Tryz.ntmps27
    go_wp2_with (first | (go_at_call 18; refine (winb_impl _ _ _ _ _ _ (hR.ext (by repeat (first | exact Ext.refl _ | assumption | refine Ext.alloc ?_ _ | refine Ext.drew ?_ | refine Ext.trans ?_ (by assumption))))).mono ?_; rintro e w1 ⟨rfl, hw1⟩; have q0 := Ext.keep (w' := w1) (by repeat (first | exact Ext.refl _ | assumption | refine Ext.alloc ?_ _ | refine Ext.drew ?_ | refine Ext.trans ?_ (by assumption))) q0; have q1 := Ext.keep (w' := w1) (by repeat (first | exact Ext.refl _ | assumption | refine Ext.alloc ?_ _ | refine Ext.drew ?_ | refine Ext.trans ?_ (by assumption))) q1) | (go_at_call 70; refine (in_impl _ _ _ _).mono ?_; rintro e w1 ⟨rfl, hw1⟩; have q0 := Ext.keep (w' := w1) (by repeat (first | exact Ext.refl _ | assumption | refine Ext.alloc ?_ _ | refine Ext.drew ?_ | refine Ext.trans ?_ (by assumption))) q0; have q1 := Ext.keep (w' := w1) (by repeat (first | exact Ext.refl _ | assumption | refine Ext.alloc ?_ _ | refine Ext.drew ?_ | refine Ext.trans ?_ (by assumption))) q1))
    go_ret
    exact ⟨ret_bool HF.out.symm, (by repeat (first | exact Ext.refl _ | assumption | refine Ext.alloc ?_ _ | refine Ext.drew ?_ | refine Ext.trans ?_ (by assumption)))⟩
  obtain ⟨k1, k2⟩ := inR_iff.1 h2
  obtain ⟨m, rfl⟩ : ∃ m : Nat, k = m := ⟨k.toNat, by omega⟩
  obtain ⟨x, hx⟩ := at_of_lt (xs := vs) (k := 0) (by omega)
  obtain ⟨b, off, _, _, rfl, _⟩ := hR.at_ hx
  have hRt := hR.take m
  have hRd := hR.drop (n := off + m * 2) m c hc rfl
  have lt : (vs.take m).length = m := by rw [List.length_take]; omega
  have ld : (vs.drop m).length = vs.length - m := List.length_drop
  have HT : Hid (∀ w', Ext w w' → Calls Tryz.prog 18 #[.int .i64 rule, .agg #[.int .i64 sz, .slice (some ⟨b, off, none⟩) m c]] w' fun e w'' => e = .returned (.int .i64 (winB rule sz (vs.take m))) ∧ Ext w' w'') := fun w' hw' => by
    have h := winb_impl w' rule sz _ c (vs.take m) (hRt.ext hw')
    rw [lt] at h
    exact h
  have HD : Hid (∀ w', Ext w w' → Calls Tryz.prog 18 #[.int .i64 rule, .agg #[.int .i64 sz, .slice (if c = m then some ⟨b, off, none⟩ else some ⟨b, off + m * 2, none⟩) (vs.length - m) (c - m)]] w' fun e w'' => e = .returned (.int .i64 (winB rule sz (vs.drop m))) ∧ Ext w' w'') := fun w' hw' => by
    have h := winb_impl w' rule sz _ (c - m) (vs.drop m) (hRd.ext hw')
    rw [ld] at h
    exact h
  have HS : Hid (splO rule sz vs m = ((winB rule sz (vs.take m) == winB rule sz (vs.drop m)) && !(winB rule sz (vs.take m) == winB rule sz vs))) := hide (by
    unfold splO
    rw [h2, decide_eq_true (show 0 ≤ winB rule sz vs by omega), Int.toNat_natCast]; simp)
  have i1 : m ≤ c := by omega
  have i2 : m ≤ vs.length := by omega
  have i3 : (m : Int) ≤ (c : Int) := by omega
  have i4 : (m : Int) ≤ (vs.length : Int) := by omega
  generalize hA : (if c = m then (some ⟨b, off, none⟩ : Option Addr) else some ⟨b, off + m * 2, none⟩) = A at HD
  clear hx hRt hRd lt ld k1 k2
  have HW : Hid (∀ w', Ext w w' → Calls Tryz.prog 18 #[.int .i64 rule, .agg #[.int .i64 sz, .slice (some ⟨b, off, none⟩) vs.length c]] w' fun e w'' => e = .returned (.int .i64 (winB rule sz vs)) ∧ Ext w' w'') := fun w' hw' => winb_impl w' rule sz _ c vs (hR.ext hw')
  generalize winB rule sz vs = ww at HW HS h1
  generalize winB rule sz (vs.take m) = wt at HT HS
  generalize winB rule sz (vs.drop m) = wd at HD HS
  cases h3 : (wt == wd) <;> cases h4 : (wt == ww)
  all_goals
    have HF := hide HS.out
    rw [h3, h4] at HF
    clear HS
    go_enter Tryz.func27, Tryz.ntmps27
    go_wp2_with (first | (go_at_call 18; refine (HW.out _ (by repeat (first | exact Ext.refl _ | assumption | refine Ext.alloc ?_ _ | refine Ext.drew ?_ | refine Ext.trans ?_ (by assumption)))).mono ?_; rintro e w1 ⟨rfl, hw1⟩; have q0 := Ext.keep (w' := w1) (by repeat (first | exact Ext.refl _ | assumption | refine Ext.alloc ?_ _ | refine Ext.drew ?_ | refine Ext.trans ?_ (by assumption))) q0; have q1 := Ext.keep (w' := w1) (by repeat (first | exact Ext.refl _ | assumption | refine Ext.alloc ?_ _ | refine Ext.drew ?_ | refine Ext.trans ?_ (by assumption))) q1) | (go_at_call 70; refine (in_impl _ _ _ _).mono ?_; rintro e w1 ⟨rfl, hw1⟩; have q0 := Ext.keep (w' := w1) (by repeat (first | exact Ext.refl _ | assumption | refine Ext.alloc ?_ _ | refine Ext.drew ?_ | refine Ext.trans ?_ (by assumption))) q0; have q1 := Ext.keep (w' := w1) (by repeat (first | exact Ext.refl _ | assumption | refine Ext.alloc ?_ _ | refine Ext.drew ?_ | refine Ext.trans ?_ (by assumption))) q1))
    refine wp_region_X (by kernel_rfl) (by kernel_rfl) ?_
    repeat' (refine wpX_stepQ (fun K hK => ?_)
             go_simp
             try (rw [if_neg (by intro h; simp [undef] at h)])
             try split
             all_goals
               first
               | (refine hK _ ?_
                  clear hK K)
               | (apply Exists.intro
                  refine ⟨fun wq hwq => ?_, hK _ ?_⟩
                  · have hcq := hwq.cellS
                    go_simp
                    first
                    | exact ⟨Ext.refl _, rfl⟩
                  clear hK K))
    refine wpX_stepS rfl (by kernel_rfl) (fun K hK wq hwq => ?_)
    go_simp
    refine (HT.out _ (by repeat (first | exact Ext.refl _ | assumption | refine Ext.alloc ?_ _ | refine Ext.drew ?_ | refine Ext.trans ?_ (by assumption)))).mono ?_
    rintro e w4 ⟨rfl, hw4⟩
    refine ⟨hw4, hK _ _ ?_⟩
    clear hK K
    have q0 := hw4.keep (hwq.keep q0)
    have q1 := hw4.keep (hwq.keep q1)
    repeat' (refine wpX_stepQ (fun K hK => ?_)
             go_simp
             try (rw [if_neg (by intro h; simp [undef] at h)])
             try split
             all_goals
               first
               | (refine hK _ ?_
                  clear hK K)
               | (apply Exists.intro
                  refine ⟨fun wq hwq => ?_, hK _ ?_⟩
                  · have hcq := hwq.cellS
                    go_simp
                    first
                    | exact ⟨Ext.refl _, rfl⟩
                  clear hK K))
    refine wpX_nil (fun wz hwz => ?_)
    have q0 := hwz.keep q0
    have q1 := hwz.keep q1
    go_wp2
    refine wp_region_X (by kernel_rfl) (by kernel_rfl) ?_
    repeat' (refine wpX_stepQ (fun K hK => ?_)
             go_simp
             try (rw [if_neg (by intro h; simp [undef] at h)])
             try split
             all_goals
               first
               | (refine hK _ ?_
                  clear hK K)
               | (apply Exists.intro
                  refine ⟨fun wq hwq => ?_, hK _ ?_⟩
                  · have hcq := hwq.cellS
                    go_simp
                    first
                    | exact ⟨Ext.refl _, rfl⟩
                  clear hK K))
    refine wpX_stepS rfl (by kernel_rfl) (fun K hK wq hwq => ?_)
    go_simp
    refine (HD.out _ (by repeat (first | exact Ext.refl _ | assumption | refine Ext.alloc ?_ _ | refine Ext.drew ?_ | refine Ext.trans ?_ (by assumption)))).mono ?_
    rintro e w5 ⟨rfl, hw5⟩
    refine ⟨hw5, hK _ _ ?_⟩
    clear hK K
    repeat' (refine wpX_stepQ (fun K hK => ?_)
             go_simp
             try (rw [if_neg (by intro h; simp [undef] at h)])
             try split
             all_goals
               first
               | (refine hK _ ?_
                  clear hK K)
               | (apply Exists.intro
                  refine ⟨fun wq hwq => ?_, hK _ ?_⟩
                  · have hcq := hwq.cellS
                    go_simp
                    first
                    | exact ⟨Ext.refl _, rfl⟩
                  clear hK K))
    refine wpX_nil (fun wv hwv => ?_)
    go_wp2
    go_ret
    exact ⟨ret_bool (by rw [HF.out]; first | rfl | (simp only [bne, h4]; rfl)), (by repeat (first | exact Ext.refl _ | assumption | refine Ext.alloc ?_ _ | refine Ext.drew ?_ | refine Ext.trans ?_ (by assumption)))⟩

set_option maxRecDepth 100000 in
set_option maxHeartbeats 4000000 in
theorem spl_spec (w : World) (rule sz : Int) (a : Option Addr) (c : Nat) (vs : List Vt) (k : Int) (hc : vs.length ≤ c) (hR : RdV w a vs) :
    Calls Tryz.prog 26 #[.int .i64 rule, .agg #[.int .i64 sz, .slice a vs.length c], .int .i64 k] w fun e w' => e = .returned (.bool (splO rule sz vs k)) ∧ Ext w w' := by
  have q0 := new0 w (.int .i64 sz) [.slice a vs.length c] 29
  have q1 := new1 w (.int .i64 sz) (.slice a vs.length c) [] 29
  by_cases h1 : winB rule sz vs < 0
  · have HF : Hid (splO rule sz vs k = false) := hide (by unfold splO; rw [decide_eq_false (by omega)]; rfl)
    go_enter Tryz.func26, Tryz.ntmps26
    go_wp2_with (go_at_call 16; refine (winb_spec _ _ _ _ _ _ (hR.ext (by repeat (first | exact Ext.refl _ | assumption | refine Ext.alloc ?_ _ | refine Ext.drew ?_ | refine Ext.trans ?_ (by assumption))))).mono ?_; rintro e w1 ⟨rfl, hw1⟩; have q0 := Ext.keep (w' := w1) (by repeat (first | exact Ext.refl _ | assumption | refine Ext.alloc ?_ _ | refine Ext.drew ?_ | refine Ext.trans ?_ (by assumption))) q0; have q1 := Ext.keep (w' := w1) (by repeat (first | exact Ext.refl _ | assumption | refine Ext.alloc ?_ _ | refine Ext.drew ?_ | refine Ext.trans ?_ (by assumption))) q1)
    go_ret
    exact ⟨ret_bool HF.out.symm, (by repeat (first | exact Ext.refl _ | assumption | refine Ext.alloc ?_ _ | refine Ext.drew ?_ | refine Ext.trans ?_ (by assumption)))⟩
  obtain ⟨h0, _⟩ := winB_pos (rule := rule) (sz := sz) (vs := vs) (by omega)
  have hvl := (prof_small h0).1
  clear h0
  have y0 : wrap64 ((vs.length : Int) - 1) = (vs.length : Int) - 1 := IntWalk.wrap64_in _ (by omega)
  have y1 : IntKind.i64.wrap ((vs.length : Int) - 1) = (vs.length : Int) - 1 := IntWalk.i64_in _ (by omega)
  cases h2 : inR k 1 ((vs.length : Int) - 1)
  · have HF : Hid (splO rule sz vs k = false) := hide (by unfold splO; rw [h2]; simp)
    go_enter Tryz.func26, Tryz.ntmps26
    go_wp2_with (first | (go_at_call 16; refine (winb_spec _ _ _ _ _ _ (hR.ext (by repeat (first | exact Ext.refl _ | assumption | refine Ext.alloc ?_ _ | refine Ext.drew ?_ | refine Ext.trans ?_ (by assumption))))).mono ?_; rintro e w1 ⟨rfl, hw1⟩; have q0 := Ext.keep (w' := w1) (by repeat (first | exact Ext.refl _ | assumption | refine Ext.alloc ?_ _ | refine Ext.drew ?_ | refine Ext.trans ?_ (by assumption))) q0; have q1 := Ext.keep (w' := w1) (by repeat (first | exact Ext.refl _ | assumption | refine Ext.alloc ?_ _ | refine Ext.drew ?_ | refine Ext.trans ?_ (by assumption))) q1) | (go_at_call 69; refine (in_spec _ _ _ _).mono ?_; rintro e w1 ⟨rfl, hw1⟩; have q0 := Ext.keep (w' := w1) (by repeat (first | exact Ext.refl _ | assumption | refine Ext.alloc ?_ _ | refine Ext.drew ?_ | refine Ext.trans ?_ (by assumption))) q0; have q1 := Ext.keep (w' := w1) (by repeat (first | exact Ext.refl _ | assumption | refine Ext.alloc ?_ _ | refine Ext.drew ?_ | refine Ext.trans ?_ (by assumption))) q1))
    go_ret
    exact ⟨ret_bool HF.out.symm, (by repeat (first | exact Ext.refl _ | assumption | refine Ext.alloc ?_ _ | refine Ext.drew ?_ | refine Ext.trans ?_ (by assumption)))⟩
  obtain ⟨k1, k2⟩ := inR_iff.1 h2
  obtain ⟨m, rfl⟩ : ∃ m : Nat, k = m := ⟨k.toNat, by omega⟩
  obtain ⟨x, hx⟩ := at_of_lt (xs := vs) (k := 0) (by omega)
  obtain ⟨b, off, _, _, rfl, _⟩ := hR.at_ hx
  have hRt := hR.take m
  have hRd := hR.drop (n := off + m * 2) m c hc rfl
  have lt : (vs.take m).length = m := by rw [List.length_take]; omega
  have ld : (vs.drop m).length = vs.length - m := List.length_drop
  have HT : Hid (∀ w', Ext w w' → Calls Tryz.prog 16 #[.int .i64 rule, .agg #[.int .i64 sz, .slice (some ⟨b, off, none⟩) m c]] w' fun e w'' => e = .returned (.int .i64 (winB rule sz (vs.take m))) ∧ Ext w' w'') := fun w' hw' => by
    have h := winb_spec w' rule sz _ c (vs.take m) (hRt.ext hw')
    rw [lt] at h
    exact h
  have HD : Hid (∀ w', Ext w w' → Calls Tryz.prog 16 #[.int .i64 rule, .agg #[.int .i64 sz, .slice (if c = m then some ⟨b, off, none⟩ else some ⟨b, off + m * 2, none⟩) (vs.length - m) (c - m)]] w' fun e w'' => e = .returned (.int .i64 (winB rule sz (vs.drop m))) ∧ Ext w' w'') := fun w' hw' => by
    have h := winb_spec w' rule sz _ (c - m) (vs.drop m) (hRd.ext hw')
    rw [ld] at h
    exact h
  have HS : Hid (splO rule sz vs m = ((winB rule sz (vs.take m) == winB rule sz (vs.drop m)) && !(winB rule sz (vs.take m) == winB rule sz vs))) := hide (by
    unfold splO
    rw [h2, decide_eq_true (show 0 ≤ winB rule sz vs by omega), Int.toNat_natCast]; simp)
  have i1 : m ≤ c := by omega
  have i2 : m ≤ vs.length := by omega
  have i3 : (m : Int) ≤ (c : Int) := by omega
  have i4 : (m : Int) ≤ (vs.length : Int) := by omega
  generalize hA : (if c = m then (some ⟨b, off, none⟩ : Option Addr) else some ⟨b, off + m * 2, none⟩) = A at HD
  clear hx hRt hRd lt ld k1 k2
  have HW : Hid (∀ w', Ext w w' → Calls Tryz.prog 16 #[.int .i64 rule, .agg #[.int .i64 sz, .slice (some ⟨b, off, none⟩) vs.length c]] w' fun e w'' => e = .returned (.int .i64 (winB rule sz vs)) ∧ Ext w' w'') := fun w' hw' => winb_spec w' rule sz _ c vs (hR.ext hw')
  generalize winB rule sz vs = ww at HW HS h1
  generalize winB rule sz (vs.take m) = wt at HT HS
  generalize winB rule sz (vs.drop m) = wd at HD HS
  cases h3 : (wt == wd) <;> cases h4 : (wt == ww)
  all_goals
    have HF := hide HS.out
    rw [h3, h4] at HF
    clear HS
    go_enter Tryz.func26, Tryz.ntmps26
    go_wp2_with (first | (go_at_call 16; refine (HW.out _ (by repeat (first | exact Ext.refl _ | assumption | refine Ext.alloc ?_ _ | refine Ext.drew ?_ | refine Ext.trans ?_ (by assumption)))).mono ?_; rintro e w1 ⟨rfl, hw1⟩; have q0 := Ext.keep (w' := w1) (by repeat (first | exact Ext.refl _ | assumption | refine Ext.alloc ?_ _ | refine Ext.drew ?_ | refine Ext.trans ?_ (by assumption))) q0; have q1 := Ext.keep (w' := w1) (by repeat (first | exact Ext.refl _ | assumption | refine Ext.alloc ?_ _ | refine Ext.drew ?_ | refine Ext.trans ?_ (by assumption))) q1) | (go_at_call 69; refine (in_spec _ _ _ _).mono ?_; rintro e w1 ⟨rfl, hw1⟩; have q0 := Ext.keep (w' := w1) (by repeat (first | exact Ext.refl _ | assumption | refine Ext.alloc ?_ _ | refine Ext.drew ?_ | refine Ext.trans ?_ (by assumption))) q0; have q1 := Ext.keep (w' := w1) (by repeat (first | exact Ext.refl _ | assumption | refine Ext.alloc ?_ _ | refine Ext.drew ?_ | refine Ext.trans ?_ (by assumption))) q1))
    refine wp_region_X (by kernel_rfl) (by kernel_rfl) ?_
    repeat' (refine wpX_stepQ (fun K hK => ?_)
             go_simp
             try (rw [if_neg (by intro h; simp [undef] at h)])
             try split
             all_goals
               first
               | (refine hK _ ?_
                  clear hK K)
               | (apply Exists.intro
                  refine ⟨fun wq hwq => ?_, hK _ ?_⟩
                  · have hcq := hwq.cellS
                    go_simp
                    first
                    | exact ⟨Ext.refl _, rfl⟩
                  clear hK K))
    refine wpX_stepS rfl (by kernel_rfl) (fun K hK wq hwq => ?_)
    go_simp
    refine (HT.out _ (by repeat (first | exact Ext.refl _ | assumption | refine Ext.alloc ?_ _ | refine Ext.drew ?_ | refine Ext.trans ?_ (by assumption)))).mono ?_
    rintro e w4 ⟨rfl, hw4⟩
    refine ⟨hw4, hK _ _ ?_⟩
    clear hK K
    have q0 := hw4.keep (hwq.keep q0)
    have q1 := hw4.keep (hwq.keep q1)
    repeat' (refine wpX_stepQ (fun K hK => ?_)
             go_simp
             try (rw [if_neg (by intro h; simp [undef] at h)])
             try split
             all_goals
               first
               | (refine hK _ ?_
                  clear hK K)
               | (apply Exists.intro
                  refine ⟨fun wq hwq => ?_, hK _ ?_⟩
                  · have hcq := hwq.cellS
                    go_simp
                    first
                    | exact ⟨Ext.refl _, rfl⟩
                  clear hK K))
    refine wpX_nil (fun wz hwz => ?_)
    have q0 := hwz.keep q0
    have q1 := hwz.keep q1
    go_wp2
    refine wp_region_X (by kernel_rfl) (by kernel_rfl) ?_
    repeat' (refine wpX_stepQ (fun K hK => ?_)
             go_simp
             try (rw [if_neg (by intro h; simp [undef] at h)])
             try split
             all_goals
               first
               | (refine hK _ ?_
                  clear hK K)
               | (apply Exists.intro
                  refine ⟨fun wq hwq => ?_, hK _ ?_⟩
                  · have hcq := hwq.cellS
                    go_simp
                    first
                    | exact ⟨Ext.refl _, rfl⟩
                  clear hK K))
    refine wpX_stepS rfl (by kernel_rfl) (fun K hK wq hwq => ?_)
    go_simp
    refine (HD.out _ (by repeat (first | exact Ext.refl _ | assumption | refine Ext.alloc ?_ _ | refine Ext.drew ?_ | refine Ext.trans ?_ (by assumption)))).mono ?_
    rintro e w5 ⟨rfl, hw5⟩
    refine ⟨hw5, hK _ _ ?_⟩
    clear hK K
    repeat' (refine wpX_stepQ (fun K hK => ?_)
             go_simp
             try (rw [if_neg (by intro h; simp [undef] at h)])
             try split
             all_goals
               first
               | (refine hK _ ?_
                  clear hK K)
               | (apply Exists.intro
                  refine ⟨fun wq hwq => ?_, hK _ ?_⟩
                  · have hcq := hwq.cellS
                    go_simp
                    first
                    | exact ⟨Ext.refl _, rfl⟩
                  clear hK K))
    refine wpX_nil (fun wv hwv => ?_)
    go_wp2
    go_ret
    exact ⟨ret_bool (by rw [HF.out]; first | rfl | (simp only [bne, h4]; rfl)), (by repeat (first | exact Ext.refl _ | assumption | refine Ext.alloc ?_ _ | refine Ext.drew ?_ | refine Ext.trans ?_ (by assumption)))⟩

end Go.Proofs.YtblkbdfndbpndaaGreat
