/- Greatest common divisors and fractions in lowest terms, of both sides, for a top that is not negative. -/
import Derived.Test.YtacmabdeocmheaaScore
namespace Go.Proofs.Ytacmabdeocmheaa
open Go.RowKit

set_option maxRecDepth 100000 in
theorem tmod_nat (p q : Nat) : ((p : Int).tmod (q : Int)) = ((p % q : Nat) : Int) := rfl
set_option maxRecDepth 100000 in
theorem tdiv_nat (p q : Nat) : ((p : Int).tdiv (q : Int)) = ((p / q : Nat) : Int) := rfl

set_option maxRecDepth 100000 in
set_option maxHeartbeats 1000000 in
theorem gcd_spec (w : World) (x y : Nat) (hx : x ≤ 1000000000000) (hy : y ≤ 1000000000000) :
    Calls Try.prog 222 #[.int .i64 x, .int .i64 y] w fun e w' => e = .returned (.int .i64 (Nat.gcd x y : Nat)) ∧ Ext w w' := by
  go_enter Try.func222, Try.ntmps222
  go_wp2_with fail
  go_loopw [0, 1, 5] (fun a b _ wr => ∃ p q : Nat, a = .int .i64 p ∧ b = .int .i64 q ∧ p ≤ 1000000000000 ∧ q ≤ 1000000000000 ∧ Hid (Nat.gcd p q = Nat.gcd x y) ∧ Ext w wr) (fun _ b _ _ => (intOf b).toNat)
  case atStart => exact ⟨x, y, rfl, rfl, hx, hy, rfl, Ext.refl _⟩
  case round =>
    obtain ⟨p, q, rfl, rfl, hp, hq, hg, hwr⟩ := hrel
    by_cases h0 : q = 0
    · have HG : Hid (Nat.gcd x y = p) := hide (by rw [← hg.out, h0, Nat.gcd_zero_right])
      have i1 : ¬ (0 : Int) < (q : Int) := by omega
      clear h0
      go_wp2
      go_ret
      exact ⟨ret_int (by rw [HG.out]), hwr⟩
    · have i1 : (0 : Int) < (q : Int) := by omega
      have i2 : ¬ (q : Int) = 0 := by omega
      have hm := tmod_nat p q
      have hlt : p % q < q := Nat.mod_lt p (by omega)
      have HG : Hid (Nat.gcd q (p % q) = Nat.gcd x y) := hide (by rw [← hg.out, Nat.gcd_comm p q, Nat.gcd_rec q p, Nat.gcd_comm])
      clear h0
      generalize p % q = r at hm hlt HG
      go_wp2
      exact ⟨⟨q, r, rfl, by simp, hq, by omega, HG, hwr⟩, by simp [intOf]; omega⟩

set_option maxRecDepth 100000 in
set_option maxHeartbeats 1000000 in
theorem gcd_impl (w : World) (x y : Nat) (hx : x ≤ 1000000000000) (hy : y ≤ 1000000000000) :
    Calls Try.prog 226 #[.int .i64 x, .int .i64 y] w fun e w' => e = .returned (.int .i64 (Nat.gcd x y : Nat)) ∧ Ext w w' := by
  go_enter Try.func226, Try.ntmps226
  go_wp2_with fail
  go_loopw [0, 1] (fun a b wr => ∃ p q : Nat, a = .int .i64 p ∧ b = .int .i64 q ∧ p ≤ 1000000000000 ∧ q ≤ 1000000000000 ∧ Hid (Nat.gcd p q = Nat.gcd x y) ∧ Ext w wr) (fun _ b _ => (intOf b).toNat)
  case atStart => exact ⟨x, y, rfl, rfl, hx, hy, rfl, Ext.refl _⟩
  case round =>
    obtain ⟨p, q, rfl, rfl, hp, hq, hg, hwr⟩ := hrel
    by_cases h0 : q = 0
    · have HG : Hid (Nat.gcd x y = p) := hide (by rw [← hg.out, h0, Nat.gcd_zero_right])
      have i1 : (q : Int) = 0 := by omega
      have y1 : wrap64 (-(p : Int)) = -(p : Int) := IntWalk.wrap64_in _ (by omega)
      have t1 : max (p : Int) (-(p : Int)) = p := by omega
      clear h0
      go_wp2
      all_goals go_ret
      all_goals first | (exact ⟨ret_int (by rw [HG.out]), hwr⟩) | (exact ⟨ret_int (by rw [HG.out]; omega), hwr⟩)
    · have i2 : ¬ (q : Int) = 0 := by omega
      have hm := tmod_nat p q
      have i3 : (q : Int) ≠ 0 := by omega
      have i4 : q ≠ 0 := by omega
      have hlt : p % q < q := Nat.mod_lt p (by omega)
      have HG : Hid (Nat.gcd q (p % q) = Nat.gcd x y) := hide (by rw [← hg.out, Nat.gcd_comm p q, Nat.gcd_rec q p, Nat.gcd_comm])
      clear h0
      generalize p % q = r at hm hlt HG
      go_wp2
      refine wp_region_X (by kernel_rfl) (by kernel_rfl) ?_
      repeat' (refine wpX_stepQ (fun K hK => ?_)
               go_simp
               try (rw [if_neg (by intro h; simp [undef] at h)])
               try split
               all_goals
                 first
                 | (refine hK _ ?_
                    clear hK K)
                 | (apply Exists.intro
                    refine ⟨fun wq hwq => ?_, hK _ ?_⟩
                    · have hcq := hwq.cellS
                      go_simp
                      first
                      | exact ⟨Ext.refl _, rfl⟩
                    clear hK K))
      refine wpX_nil (fun wz hwz => ?_)
      go_wp2
      exact ⟨⟨q, r, rfl, by simp, hq, by omega, HG, hwr.trans hwz⟩, by simp [intOf]; omega⟩

/-- The top and the bottom of a score in lowest terms. -/
def frT (s : Nat) : Nat := s / Nat.gcd s 60
def frB (s : Nat) : Nat := 60 / Nat.gcd s 60
set_option maxRecDepth 100000 in
theorem fr_bd {s : Nat} (hs : s ≤ 5000000) : 1 ≤ Nat.gcd s 60 ∧ Nat.gcd s 60 ≤ 60 ∧ frT s ≤ 5000000 ∧ 1 ≤ frB s ∧ frB s ≤ 60 ∧ Nat.gcd (frT s) (frB s) = 1 := by
  have h1 : 1 ≤ Nat.gcd s 60 := Nat.gcd_pos_of_pos_right _ (by decide)
  have h2 : Nat.gcd s 60 ≤ 60 := Nat.gcd_le_right _ (by decide)
  refine ⟨h1, h2, Nat.le_trans (Nat.div_le_self _ _) hs, ?_, Nat.div_le_self _ _, ?_⟩
  · exact Nat.div_pos h2 h1
  · exact Nat.gcd_div_gcd_div_gcd_of_pos_right (by decide)

set_option maxRecDepth 100000 in
set_option maxHeartbeats 1000000 in
theorem fracOk_spec (w : World) (s : Nat) (hs : s ≤ 5000000) :
    Calls Try.prog 223 #[.agg #[.int .i64 (frT s : Nat), .int .i64 (frB s : Nat)]] w fun e w' => e = .returned (.bool true) ∧ Ext w w' := by
  obtain ⟨h1, h2, h3, h4, h5, h6⟩ := fr_bd hs
  have H6 := hide h6
  generalize frT s = x at h3 H6 ⊢
  generalize frB s = y at h4 h5 H6 ⊢
  have r1 : inR (x : Int) (-1000000000) 1000000000 = true := inR_iff.2 (by omega)
  have r2 : inR (y : Int) 1 1000000000 = true := inR_iff.2 (by omega)
  have y1 : wrap64 (-(x : Int)) = -(x : Int) := IntWalk.wrap64_in _ (by omega)
  have t1 : max (x : Int) (-(x : Int)) = x := by omega
  have HG : Hid (∀ w', Calls Try.prog 222 #[.int .i64 x, .int .i64 y] w' fun e w'' => e = .returned (.int .i64 (1 : Nat)) ∧ Ext w' w'') := fun w' => by
    have h := gcd_spec w' x y (by omega) (by omega)
    rw [H6.out] at h
    exact h
  clear h6 hs h1 h2
  have q0 := new0 w (.int .i64 x) [.int .i64 y] 27
  have q1 := new1 w (.int .i64 x) (.int .i64 y) [] 27
  go_enter Try.func223, Try.ntmps223
  go_wp2_with (first | (go_at_call 113; refine (in_spec _ _ _ _).mono ?_; rintro e w1 ⟨rfl, hw1⟩; have q0 := Ext.keep (w' := w1) (by repeat (first | exact Ext.refl _ | assumption | refine Ext.alloc ?_ _ | refine Ext.drew ?_ | refine Ext.trans ?_ (by assumption))) q0; have q1 := Ext.keep (w' := w1) (by repeat (first | exact Ext.refl _ | assumption | refine Ext.alloc ?_ _ | refine Ext.drew ?_ | refine Ext.trans ?_ (by assumption))) q1) | (go_at_call 222; refine (HG.out _).mono ?_; rintro e w1 ⟨rfl, hw1⟩; have q0 := Ext.keep (w' := w1) (by repeat (first | exact Ext.refl _ | assumption | refine Ext.alloc ?_ _ | refine Ext.drew ?_ | refine Ext.trans ?_ (by assumption))) q0; have q1 := Ext.keep (w' := w1) (by repeat (first | exact Ext.refl _ | assumption | refine Ext.alloc ?_ _ | refine Ext.drew ?_ | refine Ext.trans ?_ (by assumption))) q1))
  all_goals first | (exfalso; omega) | skip
  all_goals go_ret
  all_goals exact ⟨rfl, (by repeat (first | exact Ext.refl _ | assumption | refine Ext.alloc ?_ _ | refine Ext.drew ?_ | refine Ext.trans ?_ (by assumption)))⟩

set_option maxRecDepth 100000 in
set_option maxHeartbeats 1000000 in
theorem fracOk_impl (w : World) (s : Nat) (hs : s ≤ 5000000) :
    Calls Try.prog 166 #[.agg #[.int .i64 (frT s : Nat), .int .i64 (frB s : Nat)]] w fun e w' => e = .returned (.bool true) ∧ Ext w w' := by
  obtain ⟨h1, h2, h3, h4, h5, h6⟩ := fr_bd hs
  have H6 := hide h6
  generalize frT s = x at h3 H6 ⊢
  generalize frB s = y at h4 h5 H6 ⊢
  have r1 : inR (x : Int) (-1000000000) 1000000000 = true := inR_iff.2 (by omega)
  have r2 : inR (y : Int) 1 1000000000 = true := inR_iff.2 (by omega)
  have y1 : wrap64 (-(x : Int)) = -(x : Int) := IntWalk.wrap64_in _ (by omega)
  have t1 : max (x : Int) (-(x : Int)) = x := by omega
  have HG : Hid (∀ w', Calls Try.prog 226 #[.int .i64 x, .int .i64 y] w' fun e w'' => e = .returned (.int .i64 (1 : Nat)) ∧ Ext w' w'') := fun w' => by
    have h := gcd_impl w' x y (by omega) (by omega)
    rw [H6.out] at h
    exact h
  clear h6 hs h1 h2
  have q0 := new0 w (.int .i64 x) [.int .i64 y] 27
  have q1 := new1 w (.int .i64 x) (.int .i64 y) [] 27
  go_enter Try.func166, Try.ntmps166
  go_wp2_with (first | (go_at_call 160; refine (in_impl _ _ _ _).mono ?_; rintro e w1 ⟨rfl, hw1⟩; have q0 := Ext.keep (w' := w1) (by repeat (first | exact Ext.refl _ | assumption | refine Ext.alloc ?_ _ | refine Ext.drew ?_ | refine Ext.trans ?_ (by assumption))) q0; have q1 := Ext.keep (w' := w1) (by repeat (first | exact Ext.refl _ | assumption | refine Ext.alloc ?_ _ | refine Ext.drew ?_ | refine Ext.trans ?_ (by assumption))) q1) | (go_at_call 226; refine (HG.out _).mono ?_; rintro e w1 ⟨rfl, hw1⟩; have q0 := Ext.keep (w' := w1) (by repeat (first | exact Ext.refl _ | assumption | refine Ext.alloc ?_ _ | refine Ext.drew ?_ | refine Ext.trans ?_ (by assumption))) q0; have q1 := Ext.keep (w' := w1) (by repeat (first | exact Ext.refl _ | assumption | refine Ext.alloc ?_ _ | refine Ext.drew ?_ | refine Ext.trans ?_ (by assumption))) q1))
  all_goals first | (exfalso; omega) | skip
  all_goals go_ret
  all_goals exact ⟨rfl, (by repeat (first | exact Ext.refl _ | assumption | refine Ext.alloc ?_ _ | refine Ext.drew ?_ | refine Ext.trans ?_ (by assumption)))⟩

set_option maxRecDepth 100000 in
theorem tdiv_fr (s : Nat) : ((s : Int).tdiv ((Nat.gcd s 60 : Nat) : Int)) = (frT s : Nat) := rfl
set_option maxRecDepth 100000 in
theorem tdiv_60 (s : Nat) : ((60 : Int).tdiv ((Nat.gcd s 60 : Nat) : Int)) = (frB s : Nat) := rfl

set_option maxRecDepth 100000 in
set_option maxHeartbeats 1000000 in
theorem red_impl (w : World) (s : Nat) (hs : s ≤ 5000000) :
    Calls Try.prog 118 #[.int .i64 s, .int .i64 60] w fun e w' => e = .returned (.tuple #[.agg #[.int .i64 (frT s : Nat), .int .i64 (frB s : Nat)], .bool true]) ∧ Ext w w' := by
  obtain ⟨h1, h2, h3, h4, h5, h6⟩ := fr_bd hs
  have HF := hide (fun w' => fracOk_impl w' s hs)
  have HG : Hid (∀ w', Calls Try.prog 226 #[.int .i64 s, .int .i64 60] w' fun e w'' => e = .returned (.int .i64 (Nat.gcd s 60 : Nat)) ∧ Ext w' w'') := fun w' => gcd_impl w' s 60 (by omega) (by decide)
  have d1 := tdiv_fr s
  have d2 := tdiv_60 s
  generalize frT s = x at HF d1 h3 ⊢
  generalize frB s = y at HF d2 h4 h5 ⊢
  generalize Nat.gcd s 60 = g at HG d1 d2 h1 h2 ⊢
  have i1 : (g : Int) ≠ 0 := by omega
  have i2 : g ≠ 0 := by omega
  have y1 : IntKind.i64.wrap (x : Int) = x := IntWalk.i64_in _ (by omega)
  have y2 : IntKind.i64.wrap (y : Int) = y := IntWalk.i64_in _ (by omega)
  clear h6
  go_enter Try.func118, Try.ntmps118
  go_wp2_with (go_at_call 226; refine (HG.out _).mono ?_; rintro e w1 ⟨rfl, hw1⟩)
  refine wp_region_X (by kernel_rfl) (by kernel_rfl) ?_
  repeat' (refine wpX_stepQ (fun K hK => ?_)
           go_simp
           try (rw [if_neg (by intro h; simp [undef] at h)])
           try split
           all_goals
             first
             | (refine hK _ ?_
                clear hK K)
             | (apply Exists.intro
                refine ⟨fun wq hwq => ?_, hK _ ?_⟩
                · have hcq := hwq.cellS
                  go_simp
                  first
                  | exact ⟨Ext.refl _, rfl⟩
                clear hK K))
  refine wpX_stepS rfl (by kernel_rfl) (fun K hK wq hwq => ?_)
  go_simp
  refine ⟨(by repeat (first | exact Ext.refl _ | assumption | refine Ext.alloc ?_ _ | refine Ext.drew ?_ | refine Ext.trans ?_ (by assumption))), hK _ _ ?_⟩
  clear hK K
  refine wpX_stepL rfl (by kernel_rfl) (by kernel_rfl) (by kernel_rfl) (fun K hK wz hwz => ?_)
  have hcz := hwz.cellS
  have hfz := hwz.frozenS
  go_simp
  refine hK _ _ ?_
  clear hK K
  have b0 := BlkF.new wq #[.int .i64 0, .int .i64 0] 27
  have b1 := ((b0.ext hwz).set 0 (by simp) (.int .i64 x)).set 1 (by simp) (.int .i64 y)
  have p0 := BlkF.new w #[.int .i64 0, .int .i64 0] 27
  have hEq : Ext (w.alloc (.cells #[.int .i64 0, .int .i64 0] 27)) wz := (by repeat (first | exact Ext.refl _ | assumption | refine Ext.alloc ?_ _ | refine Ext.drew ?_ | refine Ext.trans ?_ (by assumption)))
  have hlt : w.heap.size < wq.heap.size := (p0.ext (w' := wq) (by repeat (first | exact Ext.refl _ | assumption | refine Ext.alloc ?_ _ | refine Ext.drew ?_ | refine Ext.trans ?_ (by assumption)))).lt
  have p1 := (((p0.ext hEq).far (p := ⟨wq.heap.size, 0, none⟩) (by show wq.heap.size ≠ w.heap.size; omega) (.int .i64 x)).far (p := ⟨wq.heap.size, 1, none⟩) (by show wq.heap.size ≠ w.heap.size; omega) (.int .i64 y))
  have hEw : Ext w ((wz.setCell ⟨wq.heap.size, 0, none⟩ (.int .i64 x)).setCell ⟨wq.heap.size, 1, none⟩ (.int .i64 y)) := Ext.setCell (Ext.setCell ((Ext.new _ _).trans hEq) (by show w.heap.size ≤ wq.heap.size; omega) _) (by show w.heap.size ≤ wq.heap.size; omega) _
  have c0 := b1.cell 0 (by simp)
  have c1 := b1.cell 1 (by simp)
  have r0 := p1.cell 0 (by simp)
  have r1 := p1.cell 1 (by simp)
  rw [if_neg (by decide), if_pos rfl] at c0
  rw [if_pos rfl] at c1
  have P1 := hide p1
  generalize (wz.setCell ⟨wq.heap.size, 0, none⟩ (.int .i64 x)).setCell ⟨wq.heap.size, 1, none⟩ (.int .i64 y) = W at c0 c1 r0 r1 P1 hEw ⊢
  clear b0 b1 p0 p1 hEq hlt hwz hcz hfz hwq hw1
  go_wp2_with fail
  refine (HF.out _).mono ?_
  rintro e w5 ⟨rfl, hw5⟩
  have c0 := hw5.keep c0
  have c1 := hw5.keep c1
  have r0 := hw5.keep r0
  have r1 := hw5.keep r1
  have z0 := (P1.out.ext hw5).fr 0
  have z1 := (P1.out.ext hw5).fr 1
  go_wp2
  refine bodyPost_ret (v := .tuple #[.agg #[.int .i64 x, .int .i64 y], .bool true]) (by simp [results, Try.results118, go_sem, r0, r1]) rfl ⟨rfl, Ext.setCell (Ext.setCell (hEw.trans hw5) (Nat.le_refl _) _) (Nat.le_refl _) _⟩

set_option maxRecDepth 100000 in
set_option maxHeartbeats 1000000 in
theorem make_spec (w : World) (s : Nat) (hs : s ≤ 5000000) :
    Calls Try.prog 114 #[.int .i64 s, .int .i64 60] w fun e w' => e = .returned (.tuple #[.agg #[.int .i64 (frT s : Nat), .int .i64 (frB s : Nat)], .bool true]) ∧ Ext w w' := by
  obtain ⟨h1, h2, h3, h4, h5, h6⟩ := fr_bd hs
  have HF := hide (fun w' => fracOk_spec w' s hs)
  have HG : Hid (∀ w', Calls Try.prog 222 #[.int .i64 s, .int .i64 60] w' fun e w'' => e = .returned (.int .i64 (Nat.gcd s 60 : Nat)) ∧ Ext w' w'') := fun w' => gcd_spec w' s 60 (by omega) (by decide)
  have d1 := tdiv_fr s
  have d2 := tdiv_60 s
  generalize frT s = x at HF d1 h3 ⊢
  generalize frB s = y at HF d2 h4 h5 ⊢
  generalize Nat.gcd s 60 = g at HG d1 d2 h1 h2 ⊢
  have i1 : (g : Int) ≠ 0 := by omega
  have i2 : g ≠ 0 := by omega
  have y1 : IntKind.i64.wrap (x : Int) = x := IntWalk.i64_in _ (by omega)
  have y2 : IntKind.i64.wrap (y : Int) = y := IntWalk.i64_in _ (by omega)
  have y3 : wrap64 (-(s : Int)) = -(s : Int) := IntWalk.wrap64_in _ (by omega)
  clear h6
  go_enter Try.func114, Try.ntmps114
  go_wp2_with (go_at_call 222; refine (HG.out _).mono ?_; rintro e w1 ⟨rfl, hw1⟩)
  all_goals try (exfalso; omega)
  refine wp_region_X (by kernel_rfl) (by kernel_rfl) ?_
  repeat' (refine wpX_stepQ (fun K hK => ?_)
           go_simp
           try (rw [if_neg (by intro h; simp [undef] at h)])
           try split
           all_goals
             first
             | (refine hK _ ?_
                clear hK K)
             | (apply Exists.intro
                refine ⟨fun wq hwq => ?_, hK _ ?_⟩
                · have hcq := hwq.cellS
                  go_simp
                  first
                  | exact ⟨Ext.refl _, rfl⟩
                clear hK K))
  refine wpX_stepS rfl (by kernel_rfl) (fun K hK wq hwq => ?_)
  go_simp
  refine ⟨(by repeat (first | exact Ext.refl _ | assumption | refine Ext.alloc ?_ _ | refine Ext.drew ?_ | refine Ext.trans ?_ (by assumption))), hK _ _ ?_⟩
  clear hK K
  refine wpX_stepL rfl (by kernel_rfl) (by kernel_rfl) (by kernel_rfl) (fun K hK wz hwz => ?_)
  have hcz := hwz.cellS
  have hfz := hwz.frozenS
  go_simp
  refine hK _ _ ?_
  clear hK K
  have b0 := BlkF.new wq #[.int .i64 0, .int .i64 0] 27
  have b1 := ((b0.ext hwz).set 0 (by simp) (.int .i64 x)).set 1 (by simp) (.int .i64 y)
  have p0 := BlkF.new w #[.int .i64 0, .int .i64 0] 27
  have hEq : Ext (w.alloc (.cells #[.int .i64 0, .int .i64 0] 27)) wz := (by repeat (first | exact Ext.refl _ | assumption | refine Ext.alloc ?_ _ | refine Ext.drew ?_ | refine Ext.trans ?_ (by assumption)))
  have hlt : w.heap.size < wq.heap.size := (p0.ext (w' := wq) (by repeat (first | exact Ext.refl _ | assumption | refine Ext.alloc ?_ _ | refine Ext.drew ?_ | refine Ext.trans ?_ (by assumption)))).lt
  have p1 := (((p0.ext hEq).far (p := ⟨wq.heap.size, 0, none⟩) (by show wq.heap.size ≠ w.heap.size; omega) (.int .i64 x)).far (p := ⟨wq.heap.size, 1, none⟩) (by show wq.heap.size ≠ w.heap.size; omega) (.int .i64 y))
  have hEw : Ext w ((wz.setCell ⟨wq.heap.size, 0, none⟩ (.int .i64 x)).setCell ⟨wq.heap.size, 1, none⟩ (.int .i64 y)) := Ext.setCell (Ext.setCell ((Ext.new _ _).trans hEq) (by show w.heap.size ≤ wq.heap.size; omega) _) (by show w.heap.size ≤ wq.heap.size; omega) _
  have c0 := b1.cell 0 (by simp)
  have c1 := b1.cell 1 (by simp)
  have r0 := p1.cell 0 (by simp)
  have r1 := p1.cell 1 (by simp)
  rw [if_neg (by decide), if_pos rfl] at c0
  rw [if_pos rfl] at c1
  have P1 := hide p1
  generalize (wz.setCell ⟨wq.heap.size, 0, none⟩ (.int .i64 x)).setCell ⟨wq.heap.size, 1, none⟩ (.int .i64 y) = W at c0 c1 r0 r1 P1 hEw ⊢
  clear b0 b1 p0 p1 hEq hlt hwz hcz hfz hwq hw1
  go_wp2_with fail
  refine (HF.out _).mono ?_
  rintro e w5 ⟨rfl, hw5⟩
  have c0 := hw5.keep c0
  have c1 := hw5.keep c1
  have r0 := hw5.keep r0
  have r1 := hw5.keep r1
  have z0 := (P1.out.ext hw5).fr 0
  have z1 := (P1.out.ext hw5).fr 1
  go_wp2
  refine bodyPost_ret (v := .tuple #[.agg #[.int .i64 x, .int .i64 y], .bool true]) (by simp [results, Try.results114, go_sem, r0, r1]) rfl ⟨rfl, Ext.setCell (Ext.setCell (hEw.trans hw5) (Nat.le_refl _) _) (Nat.le_refl _) _⟩

end Go.Proofs.Ytacmabdeocmheaa
