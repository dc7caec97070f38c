/- BestCommittee and CoverCommittee of both packages. IsJust of both packages. -/
import Derived.Test.YthiojkpoeejkaaaCa9
import Derived.Test.YthiojkpoeejkaaaCa2
namespace Go.Proofs.Ythiojkpoeejkaaa
open Go.RowKit

set_option maxRecDepth 100000 in
theorem comm_ok {sz k s : Int} {bs : List (Int × Int)} (h : s ∈ commOf sz bs k) : appOk sz bs = true ∧ inR k 1 sz = true ∧ 0 ≤ s ∧ s ≤ topOf sz ∧ s ≤ 63 ∧ cntTo s 6 = k := by
  unfold commOf at h
  split at h
  · rename_i h1
    simp only [Bool.and_eq_true] at h1
    obtain ⟨hlo, hhi⟩ := ok_size h1.1
    have := top_le hlo hhi
    obtain ⟨a, b, c⟩ := commTo_mem h
    exact ⟨h1.1, h1.2, a, by omega, by omega, c⟩
  · cases h

def bestC (f : Int → Int) (sz : Int) (bs : List (Int × Int)) (k : Int) : Int := (bestO f (commOf sz bs k)).getD 0

set_option maxRecDepth 100000 in
set_option maxHeartbeats 4000000 in
theorem best_impl (w : World) (sz k : Int) (a : Option Addr) (c : Nat) (bs : List (Int × Int)) (hR : RdP w a bs) (_ : bs.length ≤ 2000000) :
    Calls Try.prog 12 #[.agg #[.int .i64 sz, .slice a bs.length c], .int .i64 k] w fun e w' => e = .returned (.int .i64 (bestC (scoreOf bs) sz bs k)) ∧ Ext w w' := by
  have q0 := new0 w (.int .i64 sz) [.slice a bs.length c] 25
  have q1 := new1 w (.int .i64 sz) (.slice a bs.length c) [] 25
  have hlen := commOf_len sz k bs
  go_enter Try.func12, Try.ntmps12
  go_wp2
  refine wp_region_O [0, 1, 3, 4, 2, 5, 6] (by kernel_rfl) rfl (by kernel_rfl) ?_
  repeat' (refine wpO_stepQ rfl (fun K hK => ?_)
           go_simp
           try (rw [if_neg (by intro h; simp [undef] at h)])
           try split
           all_goals
             first
             | (refine hK _ ?_
                clear hK K)
             | (apply Exists.intro
                refine ⟨fun wq hwq => ?_, hK _ ?_⟩
                · have hcq := hwq.cellS
                  go_simp
                  first
                  | exact ⟨Ext.refl _, rfl⟩
                clear hK K))
  refine wpO_stepS rfl (by kernel_rfl) (fun K hK wq hwq => ?_)
  go_simp
  refine (comm_impl _ _ _ _ _ _ (hR.ext (by repeat (first | exact Ext.refl _ | assumption | refine Ext.alloc ?_ _ | refine Ext.drew ?_ | refine Ext.trans ?_ (by assumption))))).mono ?_
  rintro e w3 ⟨v, rfl, hv, hw3⟩
  refine ⟨hw3, hK _ _ ?_⟩
  clear hK K
  have HB := hide (fun (w' : World) (hw' : Ext w3 w') => bestOf_impl 90 #[.agg #[.int .i64 sz, .slice a bs.length c]] #[] (scoreOf bs) w' v w3.heap.size _ (hv.fr.rdB.ext hw') (by omega) (fun _ _ => Try.call90 _ _)
    (fun x w2 hx hw2 => score_impl w2 sz x a c bs (hR.ext (by repeat (first | exact Ext.refl _ | assumption | refine Ext.alloc ?_ _ | refine Ext.drew ?_ | refine Ext.trans ?_ (by assumption)))) (small_of (comm_ok hx).1) (comm_ok hx).2.2.1 (comm_ok hx).2.2.2.2.1))
  repeat' (refine wpO_stepQ rfl (fun K hK => ?_)
           go_simp
           try (rw [if_neg (by intro h; simp [undef] at h)])
           try split
           all_goals
             first
             | (refine hK _ ?_
                clear hK K)
             | (apply Exists.intro
                refine ⟨fun wq hwq => ?_, hK _ ?_⟩
                · have hcq := hwq.cellS
                  go_simp
                  first
                  | exact ⟨Ext.refl _, rfl⟩
                  | exact ⟨Ext.refl _, HB.out _ (by assumption)⟩
                clear hK K))
  refine wpO_nil (fun wz hwz => ?_)
  go_wp2
  go_ret
  exact ⟨rfl, (by repeat (first | exact Ext.refl _ | assumption | refine Ext.alloc ?_ _ | refine Ext.drew ?_ | refine Ext.trans ?_ (by assumption)))⟩

/-- How many voters a committee covers. -/
def coverOf (bs : List (Int × Int)) (set : Int) : Int := sumIf (fun s => landI set s != 0) bs

set_option maxRecDepth 100000 in
set_option maxHeartbeats 4000000 in
theorem coverOne (w : World) (b off : Nat) (set s : Int) (h0 : w.cell? ⟨b, off, none⟩ = some (.int .i64 set)) :
    Calls Try.prog 93 #[.int .i64 s, .pointer (some ⟨b, off, none⟩)] w fun e w' => e = .returned (.bool (landI set s != 0)) ∧ Ext w w' := by
  go_enter Try.func93, Try.ntmps93
  go_wp2
  go_ret
  exact ⟨rfl, Ext.refl _⟩

set_option maxRecDepth 100000 in
set_option maxHeartbeats 4000000 in
theorem cover1_impl (w : World) (sz set : Int) (a : Option Addr) (c b off : Nat) (bs : List (Int × Int)) (hR : RdP w a bs) (hS : Small bs)
    (h0 : w.cell? ⟨b, off, none⟩ = some (.int .i64 sz)) (h1 : w.cell? ⟨b, off + 1, none⟩ = some (.slice a bs.length c)) :
    Calls Try.prog 91 #[.int .i64 set, .pointer (some ⟨b, off, none⟩)] w fun e w' => e = .returned (.int .i64 (coverOf bs set)) ∧ Ext w w' := by
  have HV := hide (fun (w' : World) (hw' : Ext (w.alloc (.cells #[.int .i64 set] 3)) w') =>
        voters_impl 93 #[] #[.pointer (some ⟨w.heap.size, 0, none⟩)] (fun s => landI set s != 0) w' sz a c bs (hR.ext (by repeat (first | exact Ext.refl _ | assumption | refine Ext.alloc ?_ _ | refine Ext.drew ?_ | refine Ext.trans ?_ (by assumption)))) hS (fun _ _ => Try.call93 _ _)
          (fun x w2 hx hw2 => coverOne w2 w.heap.size 0 set x.1 (hw2.keep (hw'.keep (new0 w _ _ _)))))
  go_enter Try.func91, Try.ntmps91
  go_wp2_with (go_at_call 92; refine (HV.out _ (Ext.refl _)).mono ?_; rintro e w1 ⟨rfl, hw1⟩)
  go_ret
  exact ⟨rfl, (by repeat (first | exact Ext.refl _ | assumption | refine Ext.alloc ?_ _ | refine Ext.drew ?_ | refine Ext.trans ?_ (by assumption)))⟩

set_option maxRecDepth 100000 in
set_option maxHeartbeats 4000000 in
theorem coverC_impl (w : World) (sz k : Int) (a : Option Addr) (c : Nat) (bs : List (Int × Int)) (hR : RdP w a bs) (_ : bs.length ≤ 2000000) :
    Calls Try.prog 13 #[.agg #[.int .i64 sz, .slice a bs.length c], .int .i64 k] w fun e w' => e = .returned (.int .i64 (bestC (coverOf bs) sz bs k)) ∧ Ext w w' := by
  have q0 := new0 w (.int .i64 sz) [.slice a bs.length c] 25
  have q1 := new1 w (.int .i64 sz) (.slice a bs.length c) [] 25
  have hlen := commOf_len sz k bs
  go_enter Try.func13, Try.ntmps13
  go_wp2_with fail
  refine (comm_impl _ _ _ _ _ _ (hR.ext (by repeat (first | exact Ext.refl _ | assumption | refine Ext.alloc ?_ _ | refine Ext.drew ?_ | refine Ext.trans ?_ (by assumption))))).mono ?_
  rintro e w3 ⟨v, rfl, hv, hw3⟩
  have q0 := hw3.keep q0
  have q1 := hw3.keep q1
  have HB := hide (fun (w' : World) (hw' : Ext w3 w') => bestOf_impl 91 #[] #[.pointer (some ⟨w.heap.size, 0, none⟩)] (coverOf bs) w' v w3.heap.size _ (hv.fr.rdB.ext hw') (by omega) (fun _ _ => Try.call91 _ _)
    (fun x w2 hx hw2 => cover1_impl w2 sz x a c w.heap.size 0 bs (hR.ext (by repeat (first | exact Ext.refl _ | assumption | refine Ext.alloc ?_ _ | refine Ext.drew ?_ | refine Ext.trans ?_ (by assumption)))) (small_of (comm_ok hx).1) (hw2.keep (hw'.keep q0)) (hw2.keep (hw'.keep q1))))
  go_wp2_with (go_at_call 89; refine (HB.out _ (Ext.refl _)).mono ?_; rintro e w1 ⟨rfl, hw1⟩)
  go_ret
  exact ⟨rfl, (by repeat (first | exact Ext.refl _ | assumption | refine Ext.alloc ?_ _ | refine Ext.drew ?_ | refine Ext.trans ?_ (by assumption)))⟩

set_option maxRecDepth 100000 in
theorem best_pos {f : Int → Int} {xs : List Int} (h : ∀ x ∈ xs, x ≠ 0) (k : Nat) : ((bestO f (xs.take k)).getD 0 = 0 ↔ bestO f (xs.take k) = none) := by
  constructor
  · intro h0
    cases hb : bestO f (xs.take k) with
    | none => rfl
    | some y =>
      rw [hb] at h0
      have hy := (bestO_congr (f := f) (g := f) (xs := xs.take k) (fun _ _ => rfl)).2 y hb
      exact absurd h0 (h y (List.mem_of_mem_take hy))
  · intro h0; rw [h0]; rfl

def cntJ (bs : List (Int × Int)) (set : Int) (a : Nat) : Int := sumIf (fun s => bitAt s a && (landI set s == 0)) bs

def allA (bs : List (Int × Int)) : Int := sumIf (fun _ => true) bs

def badJ (bs : List (Int × Int)) (set k : Int) (a : Nat) : Bool := decide (1 ≤ cntJ bs set a) && decide (allA bs ≤ cntJ bs set a * k)

def justB (sz : Int) (bs : List (Int × Int)) (set k : Int) : Bool := appOk sz bs && (inR set 0 (topOf sz) && (inR k 1 sz && (cntTo set 6 == k)))

def justOf (sz : Int) (bs : List (Int × Int)) (set k : Int) : Bool := justB sz bs set k && (List.range sz.toNat).all (fun a => !badJ bs set k a)

set_option maxRecDepth 100000 in
theorem contains_comm (sz : Int) (bs : List (Int × Int)) (set k : Int) : hasI (commOf sz bs k) set = justB sz bs set k := by
  unfold hasI
  rw [Bool.eq_iff_iff, List.contains_iff_mem]
  constructor
  · intro h
    obtain ⟨h1, h2, h3, h4, _, h6⟩ := comm_ok h
    simp [justB, h1, h2, inR_iff.2 ⟨h3, h4⟩, h6]
  · intro h
    simp only [justB, Bool.and_eq_true] at h
    obtain ⟨h1, h2, h3, h4⟩ := h
    obtain ⟨s0, s1⟩ := inR_iff.1 h2
    unfold commOf
    rw [h1, h3]
    simp only [Bool.and_self, if_true]
    unfold commTo
    rw [List.mem_filter]
    refine ⟨List.mem_map.2 ⟨set.toNat, by rw [List.mem_range]; omega, by omega⟩, by simpa using h4⟩

set_option maxRecDepth 100000 in
theorem cntJ_bd {bs : List (Int × Int)} (h : Small bs) (set : Int) (a : Nat) : 0 ≤ cntJ bs set a ∧ cntJ bs set a ≤ 12000 := by
  have h1 := sumIf_bd (p := fun s => bitAt s a && (landI set s == 0)) h bs.length (Nat.le_refl _)
  rw [List.take_length] at h1
  have := h.1
  unfold cntJ
  omega

set_option maxRecDepth 100000 in
theorem allA_bd {bs : List (Int × Int)} (h : Small bs) : 0 ≤ allA bs ∧ allA bs ≤ 12000 := by
  have h1 := sumIf_bd (p := fun _ => true) h bs.length (Nat.le_refl _)
  rw [List.take_length] at h1
  have := h.1
  unfold allA
  omega

set_option maxRecDepth 100000 in
set_option maxHeartbeats 1000000 in
theorem always (w : World) (s : Int) : Calls Try.prog 100 #[.int .i64 s] w fun e w' => e = .returned (.bool true) ∧ Ext w w' := by
  go_enter Try.func100, Try.ntmps100
  go_wp2
  go_ret
  exact ⟨rfl, Ext.refl _⟩

set_option maxRecDepth 100000 in
set_option maxHeartbeats 1000000 in
theorem justOne (w : World) (s set : Int) (h0 : 0 ≤ s) (h63 : s ≤ 63) (b off b2 off2 k : Nat) (hk : k < 6) (hc : w.cell? ⟨b, off, none⟩ = some (.int .i64 (k : Int))) (hs : w.cell? ⟨b2, off2, none⟩ = some (.int .i64 set)) :
    Calls Try.prog 101 #[.int .i64 s, .pointer (some ⟨b, off, none⟩), .pointer (some ⟨b2, off2, none⟩)] w fun e w' => e = .returned (.bool (bitAt s k && (landI set s == 0))) ∧ Ext w w' := by
  have hb := bit_impl h0 h63 hk
  have hl : bits BinOp.and IntKind.i64 set s = landI set s := rfl
  cases hbk : bitAt s k <;> cases hls : (landI set s == 0)
  all_goals
    go_enter Try.func101, Try.ntmps101
    go_wp2
    go_ret
    exact ⟨ret_bool (by simp), Ext.refl _⟩

set_option maxRecDepth 100000 in
set_option maxHeartbeats 4000000 in
theorem just_impl (w : World) (sz set k : Int) (a : Option Addr) (c : Nat) (bs : List (Int × Int)) (hR : RdP w a bs) (_ : bs.length ≤ 2000000) :
    Calls Try.prog 18 #[.agg #[.int .i64 sz, .slice a bs.length c], .int .i64 set, .int .i64 k] w fun e w' => e = .returned (.bool (justOf sz bs set k)) ∧ Ext w w' := by
  have q0 := (new0 w (.int .i64 sz) [.slice a bs.length c] 25)
  have q1 := (new1 w (.int .i64 sz) (.slice a bs.length c) [] 25)
  have q0 := (Ext.new _ (.cells #[.int .i64 set] 3)).keep q0
  have q1 := (Ext.new _ (.cells #[.int .i64 set] 3)).keep q1
  have q2 : ((w.alloc (.cells #[.int .i64 sz, .slice a bs.length c] 25)).alloc (.cells #[.int .i64 set] 3)).cell? ⟨w.heap.size + 1, 0, none⟩ = some (.int .i64 set) := by
    simp
  have hlen := commOf_len sz k bs
  have hct := contains_comm sz bs set k
  cases hj : justB sz bs set k
  · go_enter Try.func18, Try.ntmps18
    go_wp2
    refine wp_region_O [0, 1, 3, 2, 4, 5] (by kernel_rfl) rfl (by kernel_rfl) ?_
    repeat' (refine wpO_stepQ rfl (fun K hK => ?_)
             go_simp
             try (rw [if_neg (by intro h; simp [undef] at h)])
             try split
             all_goals
               first
               | (refine hK _ ?_
                  clear hK K)
               | (apply Exists.intro
                  refine ⟨fun wq hwq => ?_, hK _ ?_⟩
                  · have hcq := hwq.cellS
                    go_simp
                    first
                    | exact ⟨Ext.refl _, rfl⟩
                  clear hK K))
    refine wpO_stepS rfl (by kernel_rfl) (fun K hK wq hwq => ?_)
    go_simp
    refine (comm_impl _ _ _ _ _ _ (hR.ext (by repeat (first | exact Ext.refl _ | assumption | refine Ext.alloc ?_ _ | refine Ext.drew ?_ | refine Ext.trans ?_ (by assumption))))).mono ?_
    rintro e w3 ⟨v, rfl, hv, hw3⟩
    refine ⟨hw3, hK _ _ ?_⟩
    clear hK K
    repeat' (refine wpO_stepQ rfl (fun K hK => ?_)
             go_simp
             try (rw [if_neg (by intro h; simp [undef] at h)])
             try split
             all_goals
               first
               | (refine hK _ ?_
                  clear hK K)
               | (apply Exists.intro
                  refine ⟨fun wq hwq => ?_, hK _ ?_⟩
                  · have hcq := hwq.cellS
                    go_simp
                    first
                    | exact ⟨Ext.refl _, rfl⟩
                    | exact ⟨Ext.refl _, containsI _ _ _ _ _ (hv.fr.rdB.ext (by repeat (first | exact Ext.refl _ | assumption | refine Ext.alloc ?_ _ | refine Ext.drew ?_ | refine Ext.trans ?_ (by assumption)))) (by omega)⟩
                  clear hK K))
    refine wpO_nil (fun wz hwz => ?_)
    go_wp2
    go_ret
    exact ⟨ret_bool (by simp [justOf, hj]), (by repeat (first | exact Ext.refl _ | assumption | refine Ext.alloc ?_ _ | refine Ext.drew ?_ | refine Ext.trans ?_ (by assumption)))⟩
  · have hj2 := hj
    simp only [justB, Bool.and_eq_true] at hj2
    obtain ⟨h1, h2, h3, _⟩ := hj2
    have hS := small_of h1
    obtain ⟨hlo, hhi⟩ := ok_size h1
    obtain ⟨k1, k2⟩ := inR_iff.1 h3
    obtain ⟨n, rfl⟩ : ∃ n : Nat, sz = (n : Int) := ⟨sz.toNat, by omega⟩
    have HS := hide hS
    clear hS
    obtain ⟨v0, v1⟩ := allA_bd HS.out
    go_enter Try.func18, Try.ntmps18
    go_wp2
    refine wp_region_O [0, 1, 3, 2, 4, 5] (by kernel_rfl) rfl (by kernel_rfl) ?_
    repeat' (refine wpO_stepQ rfl (fun K hK => ?_)
             go_simp
             try (rw [if_neg (by intro h; simp [undef] at h)])
             try split
             all_goals
               first
               | (refine hK _ ?_
                  clear hK K)
               | (apply Exists.intro
                  refine ⟨fun wq hwq => ?_, hK _ ?_⟩
                  · have hcq := hwq.cellS
                    go_simp
                    first
                    | exact ⟨Ext.refl _, rfl⟩
                  clear hK K))
    refine wpO_stepS rfl (by kernel_rfl) (fun K hK wq hwq => ?_)
    go_simp
    refine (comm_impl _ _ _ _ _ _ (hR.ext (by repeat (first | exact Ext.refl _ | assumption | refine Ext.alloc ?_ _ | refine Ext.drew ?_ | refine Ext.trans ?_ (by assumption))))).mono ?_
    rintro e w3 ⟨v, rfl, hv, hw3⟩
    refine ⟨hw3, hK _ _ ?_⟩
    clear hK K
    repeat' (refine wpO_stepQ rfl (fun K hK => ?_)
             go_simp
             try (rw [if_neg (by intro h; simp [undef] at h)])
             try split
             all_goals
               first
               | (refine hK _ ?_
                  clear hK K)
               | (apply Exists.intro
                  refine ⟨fun wq hwq => ?_, hK _ ?_⟩
                  · have hcq := hwq.cellS
                    go_simp
                    first
                    | exact ⟨Ext.refl _, rfl⟩
                    | exact ⟨Ext.refl _, containsI _ _ _ _ _ (hv.fr.rdB.ext (by repeat (first | exact Ext.refl _ | assumption | refine Ext.alloc ?_ _ | refine Ext.drew ?_ | refine Ext.trans ?_ (by assumption)))) (by omega)⟩
                  clear hK K))
    refine wpO_nil (fun wz hwz => ?_)
    have q0 := Ext.keep (w' := wz) (by repeat (first | exact Ext.refl _ | assumption | refine Ext.alloc ?_ _ | refine Ext.drew ?_ | refine Ext.trans ?_ (by assumption))) q0
    have q1 := Ext.keep (w' := wz) (by repeat (first | exact Ext.refl _ | assumption | refine Ext.alloc ?_ _ | refine Ext.drew ?_ | refine Ext.trans ?_ (by assumption))) q1
    have q2 := Ext.keep (w' := wz) (by repeat (first | exact Ext.refl _ | assumption | refine Ext.alloc ?_ _ | refine Ext.drew ?_ | refine Ext.trans ?_ (by assumption))) q2
    go_wp2_with (go_at_call 92; refine (voters_impl 100 #[] #[] (fun _ => true) _ _ _ _ _ (hR.ext (by repeat (first | exact Ext.refl _ | assumption | refine Ext.alloc ?_ _ | refine Ext.drew ?_ | refine Ext.trans ?_ (by assumption)))) HS.out (fun _ _ => Try.call100 _ _) (fun x w2 _ _ => always w2 x.1)).mono ?_; rintro e w1 ⟨rfl, hw1⟩; have q0 := Ext.keep (w' := w1) (by repeat (first | exact Ext.refl _ | assumption | refine Ext.alloc ?_ _ | refine Ext.drew ?_ | refine Ext.trans ?_ (by assumption))) q0; have q1 := Ext.keep (w' := w1) (by repeat (first | exact Ext.refl _ | assumption | refine Ext.alloc ?_ _ | refine Ext.drew ?_ | refine Ext.trans ?_ (by assumption))) q1; have q2 := Ext.keep (w' := w1) (by repeat (first | exact Ext.refl _ | assumption | refine Ext.alloc ?_ _ | refine Ext.drew ?_ | refine Ext.trans ?_ (by assumption))) q2)
    have hw : Ext w w1 := (by repeat (first | exact Ext.refl _ | assumption | refine Ext.alloc ?_ _ | refine Ext.drew ?_ | refine Ext.trans ?_ (by assumption)))
    obtain ⟨W0, rfl⟩ : ∃ W0 : World, W0 = w1 := ⟨_, rfl⟩
    have hav : sumIf (fun _ => true) bs = allA bs := rfl
    simp only [hav]
    clear hav
    go_loopw [8, 9, 20] (fun _ _ i wr => ∃ m : Nat, m ≤ n ∧ i = .int .i64 m ∧ ((List.range m).all (fun a => !badJ bs set k a)) = true ∧ Ext W0 wr) (fun _ _ i _ => n - (intOf i).toNat)
    case atStart => exact ⟨0, Nat.zero_le _, rfl, rfl, Ext.refl _⟩
    case round =>
      obtain ⟨m, hm, rfl, hall, hwr⟩ := hrel
      have HA := hide hall
      clear hall
      have q0 := hwr.keep q0
      have q1 := hwr.keep q1
      have q2 := hwr.keep q2
      by_cases hlt : m < n
      · obtain ⟨cj0, cj1⟩ := cntJ_bd HS.out set m
        have HV := hide (fun (w' : World) (hw' : Ext (wr.alloc (.cells #[.int .i64 (m : Int)] 3)) w') =>
          voters_impl 101 #[] #[.pointer (some ⟨wr.heap.size, 0, none⟩), .pointer (some ⟨w.heap.size + 1, 0, none⟩)] (fun s => bitAt s m && (landI set s == 0)) w' n a c bs (hR.ext (by repeat (first | exact Ext.refl _ | assumption | refine Ext.alloc ?_ _ | refine Ext.drew ?_ | refine Ext.trans ?_ (by assumption)))) HS.out (fun _ _ => Try.call101 _ _)
            (fun x w2 hx hw2 => justOne w2 x.1 set (HS.out.2 x hx).1 (HS.out.2 x hx).2.1 wr.heap.size 0 (w.heap.size + 1) 0 m (by omega) (hw2.keep (hw'.keep (new0 wr _ _ _))) (hw2.keep ((Ext.trans (Ext.new wr _) hw').keep q2))))
        have hcj : sumIf (fun s => bitAt s m && (landI set s == 0)) bs = cntJ bs set m := rfl
        have hkm0 : 0 ≤ cntJ bs set m * k := Int.mul_nonneg cj0 (by omega)
        have hkm1 : cntJ bs set m * k ≤ 12000 * 6 := Int.mul_le_mul cj1 (by omega) (by omega) (by decide)
        by_cases b1 : 1 ≤ cntJ bs set m <;> by_cases b2 : allA bs ≤ cntJ bs set m * k
        · go_wp2_with (go_at_call 92; refine (HV.out _ (Ext.refl _)).mono ?_; rintro e w1 ⟨rfl, hw1⟩; have q0 := Ext.keep (w' := w1) (by repeat (first | exact Ext.refl _ | assumption | refine Ext.alloc ?_ _ | refine Ext.drew ?_ | refine Ext.trans ?_ (by assumption))) q0; have q1 := Ext.keep (w' := w1) (by repeat (first | exact Ext.refl _ | assumption | refine Ext.alloc ?_ _ | refine Ext.drew ?_ | refine Ext.trans ?_ (by assumption))) q1; have q2 := Ext.keep (w' := w1) (by repeat (first | exact Ext.refl _ | assumption | refine Ext.alloc ?_ _ | refine Ext.drew ?_ | refine Ext.trans ?_ (by assumption))) q2)
          go_ret
          refine ⟨ret_bool ?_, (by repeat (first | exact Ext.refl _ | assumption | refine Ext.alloc ?_ _ | refine Ext.drew ?_ | refine Ext.trans ?_ (by assumption)))⟩
          symm
          have hb : badJ bs set k m = true := by simp [badJ, b1, b2]
          have : (List.range n).all (fun a => !badJ bs set k a) = false := by
            rw [List.all_eq_false]
            exact ⟨m, List.mem_range.2 hlt, by simp [hb]⟩
          simp [justOf, this]
        all_goals
          have hb : Hid (badJ bs set k m = false) := by show badJ bs set k m = false; simp [badJ]; omega
          go_wp2_with (go_at_call 92; refine (HV.out _ (Ext.refl _)).mono ?_; rintro e w1 ⟨rfl, hw1⟩; have q0 := Ext.keep (w' := w1) (by repeat (first | exact Ext.refl _ | assumption | refine Ext.alloc ?_ _ | refine Ext.drew ?_ | refine Ext.trans ?_ (by assumption))) q0; have q1 := Ext.keep (w' := w1) (by repeat (first | exact Ext.refl _ | assumption | refine Ext.alloc ?_ _ | refine Ext.drew ?_ | refine Ext.trans ?_ (by assumption))) q1; have q2 := Ext.keep (w' := w1) (by repeat (first | exact Ext.refl _ | assumption | refine Ext.alloc ?_ _ | refine Ext.drew ?_ | refine Ext.trans ?_ (by assumption))) q2)
          refine ⟨⟨m + 1, by omega, by go_num, ?_, (by repeat (first | exact Ext.refl _ | assumption | refine Ext.alloc ?_ _ | refine Ext.drew ?_ | refine Ext.trans ?_ (by assumption)))⟩, by simp [intOf]; omega⟩
          rw [List.range_succ, List.all_append, HA.out]
          simp [hb.out]
      · obtain rfl : m = n := by omega
        go_wp2
        go_ret
        exact ⟨ret_bool (by simp [justOf, hj, HA.out]), hw.trans hwr⟩

end Go.Proofs.Ythiojkpoeejkaaa
