/- IsJust of both packages. -/
import Derived.Test.YtdkkmhncdlaphaaBestC
namespace Go.Proofs.Ytdkkmhncdlaphaa
open Go.RowKit

set_option maxHeartbeats 1000000 in
theorem indexI (w : World) (a : Option Addr) (c : Nat) (xs : List Int) (x : Int) (hR : RdI w a xs) (hl : xs.length ≤ 2000000) :
    Calls Try.prog 85 #[.slice a xs.length c, .int .i64 x] w fun e w' => e = .returned (.int .i64 (findI (fun y => x == y) xs)) ∧ Ext w w' := by
  go_enter Try.func85, Try.ntmps85
  go_wp2_with fail
  go_loopw [5, 8] (fun _ i wr => ∃ k : Nat, k ≤ xs.length ∧ i = .int .i64 k ∧ (xs.take k).all (fun y => !(x == y)) = true ∧ Ext w wr) (fun _ i _ => xs.length - (intOf i).toNat)
  case atStart => exact ⟨0, Nat.zero_le _, rfl, rfl, Ext.refl _⟩
  case round =>
    obtain ⟨k, hk, rfl, hall, hwr⟩ := hrel
    have HA := hide hall
    clear hall
    by_cases hlt : k < xs.length
    · obtain ⟨y, hy⟩ := at_of_lt hlt
      obtain ⟨b, off, rfl, c0⟩ := (hR.ext hwr).at_ hy
      have HY := hide hy
      clear hy
      cases hp : (x == y)
      all_goals go_wp2
      · exact ⟨⟨k + 1, by omega, by go_num, (all_take HY.out HA.out).trans (by simp [hp]), hwr⟩, by simp [intOf]; omega⟩
      · go_ret
        exact ⟨ret_int (findI_some HY.out HA.out hp).symm, hwr⟩
    · go_wp2
      go_ret
      exact ⟨ret_int (findI_none (all_whole (by omega) HA.out)).symm, hwr⟩

def hasI (xs : List Int) (x : Int) : Bool := xs.contains x

set_option maxHeartbeats 1000000 in
theorem containsI (w : World) (B : Nat) (v : Value) (xs : List Int) (x : Int) (hV : RdB w B v xs) (hl : xs.length ≤ 2000000) :
    Calls Try.prog 65 #[v, .int .i64 x] w fun e w' => e = .returned (.bool (hasI xs x)) ∧ Ext w w' := by
  obtain ⟨a, c, rfl, hR, _⟩ := hV
  go_enter Try.func65, Try.ntmps65
  go_wp2_with (go_at_call 85; refine (indexI _ _ _ _ _ hR hl).mono ?_; rintro e w1 ⟨rfl, hw1⟩)
  go_ret
  refine ⟨ret_bool ?_, hw1⟩
  have h := findI_nonneg (fun y => x == y) xs
  have e : xs.any (fun y => x == y) = xs.contains x := by
    rw [Bool.eq_iff_iff, List.any_eq_true, List.contains_iff_mem]
    constructor
    · rintro ⟨y, hy, he⟩
      have : x = y := by simpa using he
      subst this; exact hy
    · intro hx; exact ⟨x, hx, by simp⟩
  unfold hasI
  rw [← e, ← h]

def cntJ (bs : List (Int × Int)) (set : Int) (a : Nat) : Int := sumIf (fun s => bitAt s a && (landI set s == 0)) bs
def allV (bs : List (Int × Int)) : Int := sumIf (fun _ => true) bs
def badJ (bs : List (Int × Int)) (set k : Int) (a : Nat) : Bool := decide (1 ≤ cntJ bs set a) && decide (allV bs ≤ cntJ bs set a * k)
def justB (sz : Int) (bs : List (Int × Int)) (set k : Int) : Bool := appOk sz bs && (inR set 0 (topOf sz) && (inR k 1 sz && (cntTo set 6 == k)))
def justOf (sz : Int) (bs : List (Int × Int)) (set k : Int) : Bool := justB sz bs set k && (List.range sz.toNat).all (fun a => !badJ bs set k a)

theorem contains_comm (sz : Int) (bs : List (Int × Int)) (set k : Int) : hasI (commOf sz bs k) set = justB sz bs set k := by
  unfold hasI
  rw [Bool.eq_iff_iff, List.contains_iff_mem]
  constructor
  · intro h
    obtain ⟨h1, h2, h3, h4, _, h6⟩ := comm_ok h
    simp [justB, h1, h2, inR_iff.2 ⟨h3, h4⟩, h6]
  · intro h
    simp only [justB, Bool.and_eq_true] at h
    obtain ⟨h1, h2, h3, h4⟩ := h
    obtain ⟨s0, s1⟩ := inR_iff.1 h2
    unfold commOf
    rw [h1, h3]
    simp only [Bool.and_self, if_true]
    unfold commTo
    rw [List.mem_filter]
    refine ⟨List.mem_map.2 ⟨set.toNat, by rw [List.mem_range]; omega, by omega⟩, by simpa using h4⟩

theorem cntJ_bd {bs : List (Int × Int)} (h : Small bs) (set : Int) (a : Nat) : 0 ≤ cntJ bs set a ∧ cntJ bs set a ≤ 12000 := by
  have h1 := sumIf_bd (p := fun s => bitAt s a && (landI set s == 0)) h bs.length (Nat.le_refl _)
  rw [List.take_length] at h1
  have := h.1
  unfold cntJ
  omega
theorem allV_bd {bs : List (Int × Int)} (h : Small bs) : 0 ≤ allV bs ∧ allV bs ≤ 12000 := by
  have h1 := sumIf_bd (p := fun _ => true) h bs.length (Nat.le_refl _)
  rw [List.take_length] at h1
  have := h.1
  unfold allV
  omega

set_option maxHeartbeats 1000000 in
theorem always (w : World) (s : Int) : Calls Try.prog 66 #[.int .i64 s] w fun e w' => e = .returned (.bool true) ∧ Ext w w' := by
  go_enter Try.func66, Try.ntmps66
  go_wp2
  go_ret
  exact ⟨rfl, Ext.refl _⟩

set_option maxHeartbeats 1000000 in
theorem justOne (w : World) (s set : Int) (h0 : 0 ≤ s) (h63 : s ≤ 63) (b off b2 off2 k : Nat) (hk : k < 6) (hc : w.cell? ⟨b, off, none⟩ = some (.int .i64 (k : Int))) (hs : w.cell? ⟨b2, off2, none⟩ = some (.int .i64 set)) :
    Calls Try.prog 67 #[.int .i64 s, .pointer (some ⟨b, off, none⟩), .pointer (some ⟨b2, off2, none⟩)] w fun e w' => e = .returned (.bool (bitAt s k && (landI set s == 0))) ∧ Ext w w' := by
  have hb := bit_impl h0 h63 hk
  have hl : bits BinOp.and IntKind.i64 set s = landI set s := rfl
  cases hbk : bitAt s k <;> cases hls : (landI set s == 0)
  all_goals
    go_enter Try.func67, Try.ntmps67
    go_wp2
    go_ret
    exact ⟨ret_bool (by simp), Ext.refl _⟩

set_option maxRecDepth 100000 in
set_option maxHeartbeats 4000000 in
theorem just_impl (w : World) (sz set k : Int) (a : Option Addr) (c : Nat) (bs : List (Int × Int)) (hR : RdP w a bs) (_ : bs.length ≤ 2000000) :
    Calls Try.prog 33 #[.agg #[.int .i64 sz, .slice a bs.length c], .int .i64 set, .int .i64 k] w fun e w' => e = .returned (.bool (justOf sz bs set k)) ∧ Ext w w' := by
  have q0 := (new0 w (.int .i64 sz) [.slice a bs.length c] 29)
  have q1 := (new1 w (.int .i64 sz) (.slice a bs.length c) [] 29)
  have q0 := (Ext.new _ (.cells #[.int .i64 set] 3)).keep q0
  have q1 := (Ext.new _ (.cells #[.int .i64 set] 3)).keep q1
  have q2 : ((w.alloc (.cells #[.int .i64 sz, .slice a bs.length c] 29)).alloc (.cells #[.int .i64 set] 3)).cell? ⟨w.heap.size + 1, 0, none⟩ = some (.int .i64 set) := by
    simp
  have hlen := commOf_len sz k bs
  have hct := contains_comm sz bs set k
  cases hj : justB sz bs set k
  · go_enter Try.func33, Try.ntmps33
    go_wp2
    refine wp_region_O [0, 1, 3, 2, 4, 5] (by kernel_rfl) rfl (by kernel_rfl) ?_
    repeat' (refine wpO_stepQ rfl (fun K hK => ?_)
             go_simp
             try split
             all_goals
               first
               | (refine hK _ ?_
                  clear hK K)
               | (apply Exists.intro
                  refine ⟨fun wq hwq => ?_, hK _ ?_⟩
                  · have hcq := hwq.cellS
                    go_simp
                    first
                    | exact ⟨Ext.refl _, rfl⟩
                  clear hK K))
    refine wpO_stepS rfl (by kernel_rfl) (fun K hK wq hwq => ?_)
    go_simp
    refine (comm_impl _ _ _ _ _ _ (hR.ext (by repeat (first | exact Ext.refl _ | assumption | refine Ext.alloc ?_ _ | refine Ext.drew ?_ | refine Ext.trans ?_ (by assumption))))).mono ?_
    rintro e w3 ⟨v, rfl, hv, hw3⟩
    refine ⟨hw3, hK _ _ ?_⟩
    clear hK K
    repeat' (refine wpO_stepQ rfl (fun K hK => ?_)
             go_simp
             try split
             all_goals
               first
               | (refine hK _ ?_
                  clear hK K)
               | (apply Exists.intro
                  refine ⟨fun wq hwq => ?_, hK _ ?_⟩
                  · have hcq := hwq.cellS
                    go_simp
                    first
                    | exact ⟨Ext.refl _, rfl⟩
                    | exact ⟨Ext.refl _, containsI _ _ _ _ _ (hv.fr.rdB.ext (by repeat (first | exact Ext.refl _ | assumption | refine Ext.alloc ?_ _ | refine Ext.drew ?_ | refine Ext.trans ?_ (by assumption)))) (by omega)⟩
                  clear hK K))
    refine wpO_nil (fun wz hwz => ?_)
    go_wp2
    go_ret
    exact ⟨ret_bool (by simp [justOf, hj]), (by repeat (first | exact Ext.refl _ | assumption | refine Ext.alloc ?_ _ | refine Ext.drew ?_ | refine Ext.trans ?_ (by assumption)))⟩
  · have hj2 := hj
    simp only [justB, Bool.and_eq_true] at hj2
    obtain ⟨h1, h2, h3, _⟩ := hj2
    have hS := small_of h1
    obtain ⟨hlo, hhi⟩ := ok_size h1
    obtain ⟨k1, k2⟩ := inR_iff.1 h3
    obtain ⟨n, rfl⟩ : ∃ n : Nat, sz = (n : Int) := ⟨sz.toNat, by omega⟩
    have HS := hide hS
    clear hS
    obtain ⟨v0, v1⟩ := allV_bd HS.out
    go_enter Try.func33, Try.ntmps33
    go_wp2
    refine wp_region_O [0, 1, 3, 2, 4, 5] (by kernel_rfl) rfl (by kernel_rfl) ?_
    repeat' (refine wpO_stepQ rfl (fun K hK => ?_)
             go_simp
             try split
             all_goals
               first
               | (refine hK _ ?_
                  clear hK K)
               | (apply Exists.intro
                  refine ⟨fun wq hwq => ?_, hK _ ?_⟩
                  · have hcq := hwq.cellS
                    go_simp
                    first
                    | exact ⟨Ext.refl _, rfl⟩
                  clear hK K))
    refine wpO_stepS rfl (by kernel_rfl) (fun K hK wq hwq => ?_)
    go_simp
    refine (comm_impl _ _ _ _ _ _ (hR.ext (by repeat (first | exact Ext.refl _ | assumption | refine Ext.alloc ?_ _ | refine Ext.drew ?_ | refine Ext.trans ?_ (by assumption))))).mono ?_
    rintro e w3 ⟨v, rfl, hv, hw3⟩
    refine ⟨hw3, hK _ _ ?_⟩
    clear hK K
    repeat' (refine wpO_stepQ rfl (fun K hK => ?_)
             go_simp
             try split
             all_goals
               first
               | (refine hK _ ?_
                  clear hK K)
               | (apply Exists.intro
                  refine ⟨fun wq hwq => ?_, hK _ ?_⟩
                  · have hcq := hwq.cellS
                    go_simp
                    first
                    | exact ⟨Ext.refl _, rfl⟩
                    | exact ⟨Ext.refl _, containsI _ _ _ _ _ (hv.fr.rdB.ext (by repeat (first | exact Ext.refl _ | assumption | refine Ext.alloc ?_ _ | refine Ext.drew ?_ | refine Ext.trans ?_ (by assumption)))) (by omega)⟩
                  clear hK K))
    refine wpO_nil (fun wz hwz => ?_)
    have q0 := Ext.keep (w' := wz) (by repeat (first | exact Ext.refl _ | assumption | refine Ext.alloc ?_ _ | refine Ext.drew ?_ | refine Ext.trans ?_ (by assumption))) q0
    have q1 := Ext.keep (w' := wz) (by repeat (first | exact Ext.refl _ | assumption | refine Ext.alloc ?_ _ | refine Ext.drew ?_ | refine Ext.trans ?_ (by assumption))) q1
    have q2 := Ext.keep (w' := wz) (by repeat (first | exact Ext.refl _ | assumption | refine Ext.alloc ?_ _ | refine Ext.drew ?_ | refine Ext.trans ?_ (by assumption))) q2
    go_wp2_with (go_at_call 51; refine (voters_impl 66 #[] #[] (fun _ => true) _ _ _ _ _ (hR.ext (by repeat (first | exact Ext.refl _ | assumption | refine Ext.alloc ?_ _ | refine Ext.drew ?_ | refine Ext.trans ?_ (by assumption)))) HS.out (fun _ _ => Try.call66 _ _) (fun x w2 _ _ => always w2 x.1)).mono ?_; rintro e w1 ⟨rfl, hw1⟩; have q0 := Ext.keep (w' := w1) (by repeat (first | exact Ext.refl _ | assumption | refine Ext.alloc ?_ _ | refine Ext.drew ?_ | refine Ext.trans ?_ (by assumption))) q0; have q1 := Ext.keep (w' := w1) (by repeat (first | exact Ext.refl _ | assumption | refine Ext.alloc ?_ _ | refine Ext.drew ?_ | refine Ext.trans ?_ (by assumption))) q1; have q2 := Ext.keep (w' := w1) (by repeat (first | exact Ext.refl _ | assumption | refine Ext.alloc ?_ _ | refine Ext.drew ?_ | refine Ext.trans ?_ (by assumption))) q2)
    have hw : Ext w w1 := (by repeat (first | exact Ext.refl _ | assumption | refine Ext.alloc ?_ _ | refine Ext.drew ?_ | refine Ext.trans ?_ (by assumption)))
    obtain ⟨W0, rfl⟩ : ∃ W0 : World, W0 = w1 := ⟨_, rfl⟩
    have hav : sumIf (fun _ => true) bs = allV bs := rfl
    simp only [hav]
    clear hav
    go_loopw [8, 9, 20] (fun _ _ i wr => ∃ m : Nat, m ≤ n ∧ i = .int .i64 m ∧ ((List.range m).all (fun a => !badJ bs set k a)) = true ∧ Ext W0 wr) (fun _ _ i _ => n - (intOf i).toNat)
    case atStart => exact ⟨0, Nat.zero_le _, rfl, rfl, Ext.refl _⟩
    case round =>
      obtain ⟨m, hm, rfl, hall, hwr⟩ := hrel
      have HA := hide hall
      clear hall
      have q0 := hwr.keep q0
      have q1 := hwr.keep q1
      have q2 := hwr.keep q2
      by_cases hlt : m < n
      · obtain ⟨cj0, cj1⟩ := cntJ_bd HS.out set m
        have HV := hide (fun (w' : World) (hw' : Ext (wr.alloc (.cells #[.int .i64 (m : Int)] 3)) w') =>
          voters_impl 67 #[] #[.pointer (some ⟨wr.heap.size, 0, none⟩), .pointer (some ⟨w.heap.size + 1, 0, none⟩)] (fun s => bitAt s m && (landI set s == 0)) w' n a c bs (hR.ext (by repeat (first | exact Ext.refl _ | assumption | refine Ext.alloc ?_ _ | refine Ext.drew ?_ | refine Ext.trans ?_ (by assumption)))) HS.out (fun _ _ => Try.call67 _ _)
            (fun x w2 hx hw2 => justOne w2 x.1 set (HS.out.2 x hx).1 (HS.out.2 x hx).2.1 wr.heap.size 0 (w.heap.size + 1) 0 m (by omega) (hw2.keep (hw'.keep (new0 wr _ _ _))) (hw2.keep ((Ext.trans (Ext.new wr _) hw').keep q2))))
        have hcj : sumIf (fun s => bitAt s m && (landI set s == 0)) bs = cntJ bs set m := rfl
        have hkm0 : 0 ≤ cntJ bs set m * k := Int.mul_nonneg cj0 (by omega)
        have hkm1 : cntJ bs set m * k ≤ 12000 * 6 := Int.mul_le_mul cj1 (by omega) (by omega) (by decide)
        by_cases b1 : 1 ≤ cntJ bs set m <;> by_cases b2 : allV bs ≤ cntJ bs set m * k
        · go_wp2_with (go_at_call 51; refine (HV.out _ (Ext.refl _)).mono ?_; rintro e w1 ⟨rfl, hw1⟩; have q0 := Ext.keep (w' := w1) (by repeat (first | exact Ext.refl _ | assumption | refine Ext.alloc ?_ _ | refine Ext.drew ?_ | refine Ext.trans ?_ (by assumption))) q0; have q1 := Ext.keep (w' := w1) (by repeat (first | exact Ext.refl _ | assumption | refine Ext.alloc ?_ _ | refine Ext.drew ?_ | refine Ext.trans ?_ (by assumption))) q1; have q2 := Ext.keep (w' := w1) (by repeat (first | exact Ext.refl _ | assumption | refine Ext.alloc ?_ _ | refine Ext.drew ?_ | refine Ext.trans ?_ (by assumption))) q2)
          go_ret
          refine ⟨ret_bool ?_, (by repeat (first | exact Ext.refl _ | assumption | refine Ext.alloc ?_ _ | refine Ext.drew ?_ | refine Ext.trans ?_ (by assumption)))⟩
          symm
          have hb : badJ bs set k m = true := by simp [badJ, b1, b2]
          have : (List.range n).all (fun a => !badJ bs set k a) = false := by
            rw [List.all_eq_false]
            exact ⟨m, List.mem_range.2 hlt, by simp [hb]⟩
          simp [justOf, this]
        all_goals
          have hb : Hid (badJ bs set k m = false) := by show badJ bs set k m = false; simp [badJ]; omega
          go_wp2_with (go_at_call 51; refine (HV.out _ (Ext.refl _)).mono ?_; rintro e w1 ⟨rfl, hw1⟩; have q0 := Ext.keep (w' := w1) (by repeat (first | exact Ext.refl _ | assumption | refine Ext.alloc ?_ _ | refine Ext.drew ?_ | refine Ext.trans ?_ (by assumption))) q0; have q1 := Ext.keep (w' := w1) (by repeat (first | exact Ext.refl _ | assumption | refine Ext.alloc ?_ _ | refine Ext.drew ?_ | refine Ext.trans ?_ (by assumption))) q1; have q2 := Ext.keep (w' := w1) (by repeat (first | exact Ext.refl _ | assumption | refine Ext.alloc ?_ _ | refine Ext.drew ?_ | refine Ext.trans ?_ (by assumption))) q2)
          refine ⟨⟨m + 1, by omega, by go_num, ?_, (by repeat (first | exact Ext.refl _ | assumption | refine Ext.alloc ?_ _ | refine Ext.drew ?_ | refine Ext.trans ?_ (by assumption)))⟩, by simp [intOf]; omega⟩
          rw [List.range_succ, List.all_append, HA.out]
          simp [hb.out]
      · obtain rfl : m = n := by omega
        go_wp2
        go_ret
        exact ⟨ret_bool (by simp [justOf, hj, HA.out]), hw.trans hwr⟩

set_option maxRecDepth 100000 in
set_option maxHeartbeats 8000000 in
theorem just_spec (w : World) (sz set k : Int) (a : Option Addr) (c : Nat) (bs : List (Int × Int)) (hR : RdP w a bs) (_ : bs.length ≤ 2000000) :
    Calls Try.prog 32 #[.agg #[.int .i64 sz, .slice a bs.length c], .int .i64 set, .int .i64 k] w fun e w' => e = .returned (.bool (justOf sz bs set k)) ∧ Ext w w' := by
  have q0 := new0 w (.int .i64 sz) [.slice a bs.length c] 29
  have q1 := new1 w (.int .i64 sz) (.slice a bs.length c) [] 29
  cases h1 : appOk sz bs
  · go_enter Try.func32, Try.ntmps32
    go_wp2_with (go_at_call 42; refine (ok_spec _ _ _ _ _ (hR.ext (by repeat (first | exact Ext.refl _ | assumption | refine Ext.alloc ?_ _ | refine Ext.drew ?_ | refine Ext.trans ?_ (by assumption))))).mono ?_; rintro e w1 ⟨rfl, hw1⟩; have q0 := Ext.keep (w' := w1) (by repeat (first | exact Ext.refl _ | assumption | refine Ext.alloc ?_ _ | refine Ext.drew ?_ | refine Ext.trans ?_ (by assumption))) q0; have q1 := Ext.keep (w' := w1) (by repeat (first | exact Ext.refl _ | assumption | refine Ext.alloc ?_ _ | refine Ext.drew ?_ | refine Ext.trans ?_ (by assumption))) q1)
    go_ret
    exact ⟨ret_bool (by simp [justOf, justB, h1]), (by repeat (first | exact Ext.refl _ | assumption | refine Ext.alloc ?_ _ | refine Ext.drew ?_ | refine Ext.trans ?_ (by assumption)))⟩
  obtain ⟨hlo, hhi⟩ := ok_size h1
  have htop := top_wrap64 hlo hhi
  have ht := top_le hlo hhi
  cases h2 : inR set 0 (topOf sz)
  · go_enter Try.func32, Try.ntmps32
    go_wp2_with (first | (go_at_call 42; refine (ok_spec _ _ _ _ _ (hR.ext (by repeat (first | exact Ext.refl _ | assumption | refine Ext.alloc ?_ _ | refine Ext.drew ?_ | refine Ext.trans ?_ (by assumption))))).mono ?_; rintro e w1 ⟨rfl, hw1⟩; have q0 := Ext.keep (w' := w1) (by repeat (first | exact Ext.refl _ | assumption | refine Ext.alloc ?_ _ | refine Ext.drew ?_ | refine Ext.trans ?_ (by assumption))) q0; have q1 := Ext.keep (w' := w1) (by repeat (first | exact Ext.refl _ | assumption | refine Ext.alloc ?_ _ | refine Ext.drew ?_ | refine Ext.trans ?_ (by assumption))) q1) | (go_at_call 43; refine (in_spec _ _ _ _).mono ?_; rintro e w1 ⟨rfl, hw1⟩; have q0 := Ext.keep (w' := w1) (by repeat (first | exact Ext.refl _ | assumption | refine Ext.alloc ?_ _ | refine Ext.drew ?_ | refine Ext.trans ?_ (by assumption))) q0; have q1 := Ext.keep (w' := w1) (by repeat (first | exact Ext.refl _ | assumption | refine Ext.alloc ?_ _ | refine Ext.drew ?_ | refine Ext.trans ?_ (by assumption))) q1))
    go_ret
    exact ⟨ret_bool (by simp [justOf, justB, h2]), (by repeat (first | exact Ext.refl _ | assumption | refine Ext.alloc ?_ _ | refine Ext.drew ?_ | refine Ext.trans ?_ (by assumption)))⟩
  cases h3 : inR k 1 sz
  · go_enter Try.func32, Try.ntmps32
    go_wp2_with (first | (go_at_call 42; refine (ok_spec _ _ _ _ _ (hR.ext (by repeat (first | exact Ext.refl _ | assumption | refine Ext.alloc ?_ _ | refine Ext.drew ?_ | refine Ext.trans ?_ (by assumption))))).mono ?_; rintro e w1 ⟨rfl, hw1⟩; have q0 := Ext.keep (w' := w1) (by repeat (first | exact Ext.refl _ | assumption | refine Ext.alloc ?_ _ | refine Ext.drew ?_ | refine Ext.trans ?_ (by assumption))) q0; have q1 := Ext.keep (w' := w1) (by repeat (first | exact Ext.refl _ | assumption | refine Ext.alloc ?_ _ | refine Ext.drew ?_ | refine Ext.trans ?_ (by assumption))) q1) | (go_at_call 43; refine (in_spec _ _ _ _).mono ?_; rintro e w1 ⟨rfl, hw1⟩; have q0 := Ext.keep (w' := w1) (by repeat (first | exact Ext.refl _ | assumption | refine Ext.alloc ?_ _ | refine Ext.drew ?_ | refine Ext.trans ?_ (by assumption))) q0; have q1 := Ext.keep (w' := w1) (by repeat (first | exact Ext.refl _ | assumption | refine Ext.alloc ?_ _ | refine Ext.drew ?_ | refine Ext.trans ?_ (by assumption))) q1))
    go_ret
    exact ⟨ret_bool (by simp [justOf, justB, h3]), (by repeat (first | exact Ext.refl _ | assumption | refine Ext.alloc ?_ _ | refine Ext.drew ?_ | refine Ext.trans ?_ (by assumption)))⟩
  obtain ⟨s0, s1⟩ := inR_iff.1 h2
  obtain ⟨k1, k2⟩ := inR_iff.1 h3
  have s63 : set ≤ 63 := by omega
  have s1h := hide s1
  clear s1 ht
  cases h4 : (cntTo set 6 == k)
  · have h4' : (cntTo set 6 != k) = true := by simpa using h4
    go_enter Try.func32, Try.ntmps32
    go_wp2_with (first | (go_at_call 42; refine (ok_spec _ _ _ _ _ (hR.ext (by repeat (first | exact Ext.refl _ | assumption | refine Ext.alloc ?_ _ | refine Ext.drew ?_ | refine Ext.trans ?_ (by assumption))))).mono ?_; rintro e w1 ⟨rfl, hw1⟩; have q0 := Ext.keep (w' := w1) (by repeat (first | exact Ext.refl _ | assumption | refine Ext.alloc ?_ _ | refine Ext.drew ?_ | refine Ext.trans ?_ (by assumption))) q0; have q1 := Ext.keep (w' := w1) (by repeat (first | exact Ext.refl _ | assumption | refine Ext.alloc ?_ _ | refine Ext.drew ?_ | refine Ext.trans ?_ (by assumption))) q1) | (go_at_call 43; refine (in_spec _ _ _ _).mono ?_; rintro e w1 ⟨rfl, hw1⟩; have q0 := Ext.keep (w' := w1) (by repeat (first | exact Ext.refl _ | assumption | refine Ext.alloc ?_ _ | refine Ext.drew ?_ | refine Ext.trans ?_ (by assumption))) q0; have q1 := Ext.keep (w' := w1) (by repeat (first | exact Ext.refl _ | assumption | refine Ext.alloc ?_ _ | refine Ext.drew ?_ | refine Ext.trans ?_ (by assumption))) q1) | (go_at_call 44; refine (cnt_spec _ _ s0 s63).mono ?_; rintro e w1 ⟨rfl, hw1⟩; have q0 := Ext.keep (w' := w1) (by repeat (first | exact Ext.refl _ | assumption | refine Ext.alloc ?_ _ | refine Ext.drew ?_ | refine Ext.trans ?_ (by assumption))) q0; have q1 := Ext.keep (w' := w1) (by repeat (first | exact Ext.refl _ | assumption | refine Ext.alloc ?_ _ | refine Ext.drew ?_ | refine Ext.trans ?_ (by assumption))) q1))
    go_ret
    exact ⟨ret_bool (by simp [justOf, justB, h4]), (by repeat (first | exact Ext.refl _ | assumption | refine Ext.alloc ?_ _ | refine Ext.drew ?_ | refine Ext.trans ?_ (by assumption)))⟩
  have h4' : (cntTo set 6 != k) = false := by simpa using h4
  have hj := hide (show justB sz bs set k = true by simp [justB, h1, h2, h3, h4])
  have hS := small_of h1
  obtain ⟨v0, v1⟩ := allV_bd hS
  have hl := hS.1
  have HS := hide hS
  clear hS
  obtain ⟨n, rfl⟩ : ∃ n : Nat, sz = (n : Int) := ⟨sz.toNat, by omega⟩
  simp only [Int.toNat_natCast] at htop
  go_enter Try.func32, Try.ntmps32
  go_wp2_with (first | (go_at_call 42; refine (ok_spec _ _ _ _ _ (hR.ext (by repeat (first | exact Ext.refl _ | assumption | refine Ext.alloc ?_ _ | refine Ext.drew ?_ | refine Ext.trans ?_ (by assumption))))).mono ?_; rintro e w1 ⟨rfl, hw1⟩; have q0 := Ext.keep (w' := w1) (by repeat (first | exact Ext.refl _ | assumption | refine Ext.alloc ?_ _ | refine Ext.drew ?_ | refine Ext.trans ?_ (by assumption))) q0; have q1 := Ext.keep (w' := w1) (by repeat (first | exact Ext.refl _ | assumption | refine Ext.alloc ?_ _ | refine Ext.drew ?_ | refine Ext.trans ?_ (by assumption))) q1) | (go_at_call 43; refine (in_spec _ _ _ _).mono ?_; rintro e w1 ⟨rfl, hw1⟩; have q0 := Ext.keep (w' := w1) (by repeat (first | exact Ext.refl _ | assumption | refine Ext.alloc ?_ _ | refine Ext.drew ?_ | refine Ext.trans ?_ (by assumption))) q0; have q1 := Ext.keep (w' := w1) (by repeat (first | exact Ext.refl _ | assumption | refine Ext.alloc ?_ _ | refine Ext.drew ?_ | refine Ext.trans ?_ (by assumption))) q1) | (go_at_call 44; refine (cnt_spec _ _ s0 s63).mono ?_; rintro e w1 ⟨rfl, hw1⟩; have q0 := Ext.keep (w' := w1) (by repeat (first | exact Ext.refl _ | assumption | refine Ext.alloc ?_ _ | refine Ext.drew ?_ | refine Ext.trans ?_ (by assumption))) q0; have q1 := Ext.keep (w' := w1) (by repeat (first | exact Ext.refl _ | assumption | refine Ext.alloc ?_ _ | refine Ext.drew ?_ | refine Ext.trans ?_ (by assumption))) q1))
  have hw : Ext w w1 := (by repeat (first | exact Ext.refl _ | assumption | refine Ext.alloc ?_ _ | refine Ext.drew ?_ | refine Ext.trans ?_ (by assumption)))
  obtain ⟨W0, rfl⟩ : ∃ W0 : World, W0 = w1 := ⟨_, rfl⟩
  go_loopw [7, 9, 42] (fun s _ i wr => ∃ m : Nat, m ≤ bs.length ∧ i = .int .i64 m ∧ s = .int .i64 (sumIf (fun _ => true) (bs.take m)) ∧ Ext W0 wr) (fun _ _ i _ => bs.length - (intOf i).toNat)
  case atStart => exact ⟨0, Nat.zero_le _, rfl, rfl, Ext.refl _⟩
  case round =>
    obtain ⟨m, hm, rfl, rfl, hwr⟩ := hrel
    obtain ⟨b1, b2⟩ := sumIf_bd HS.out m hm (p := fun _ => true)
    by_cases hlt : m < bs.length
    · obtain ⟨x, hx⟩ := at_of_lt hlt
      obtain ⟨b, off, rfl, c0, c1⟩ := (hR.ext (hw.trans hwr)).at_ hx
      obtain ⟨_, _, x1, x2⟩ := HS.out.2 x (List.mem_of_getElem? hx)
      have HX := hide hx
      clear hx
      go_wp2
      exact ⟨⟨m + 1, by omega, by go_num, by rw [sumIf_at HX.out]; simp, (by repeat (first | exact Ext.refl _ | assumption | refine Ext.alloc ?_ _ | refine Ext.drew ?_ | refine Ext.trans ?_ (by assumption)))⟩, by simp [intOf]; omega⟩
    · obtain rfl : m = bs.length := by omega
      rw [List.take_length]
      have hav : sumIf (fun _ => true) bs = allV bs := rfl
      rw [hav]
      clear hav b1 b2
      have q0 := hwr.keep q0
      have q1 := hwr.keep q1
      have hww : Ext w wr := hw.trans hwr
      obtain ⟨W2, rfl⟩ : ∃ W2 : World, W2 = wr := ⟨_, rfl⟩
      go_wp2
      go_loopw [10] (fun i wr => ∃ m : Nat, m ≤ n ∧ i = .int .i64 m ∧ ((List.range m).all (fun a => !badJ bs set k a)) = true ∧ Ext W2 wr) (fun i _ => n - (intOf i).toNat)
      case atStart => exact ⟨0, Nat.zero_le _, rfl, rfl, Ext.refl _⟩
      case round =>
        obtain ⟨m, hm, rfl, hall, hwr⟩ := hrel
        have HA := hide hall
        clear hall
        have q0 := hwr.keep q0
        have q1 := hwr.keep q1
        obtain ⟨wo, rfl⟩ : ∃ wo : World, wo = wr := ⟨_, rfl⟩
        by_cases hlt : m < n
        · have hpw := pow_wrap (k := m) (by omega)
          have hpw2 : IntKind.i64.wrap (2 ^ m) = 2 ^ m := by rw [IntWalk.i64_left]; exact hpw
          go_wp2
          go_loopw [11, 60] (fun s i wr => ∃ j : Nat, j ≤ bs.length ∧ i = .int .i64 j ∧ s = .int .i64 (sumIf (fun s => bitAt s m && (landI set s == 0)) (bs.take j)) ∧ Ext wo wr) (fun _ i _ => bs.length - (intOf i).toNat)
          case atStart => exact ⟨0, Nat.zero_le _, rfl, rfl, Ext.refl _⟩
          case round =>
            obtain ⟨j, hj2, rfl, rfl, hwr2⟩ := hrel
            obtain ⟨t0, t1⟩ := sumIf_bd HS.out j hj2 (p := fun s => bitAt s m && (landI set s == 0))
            by_cases hjt : j < bs.length
            · obtain ⟨x, hx⟩ := at_of_lt hjt
              obtain ⟨b, off, rfl, c0, c1⟩ := (hR.ext ((hww.trans hwr).trans hwr2)).at_ hx
              obtain ⟨x0, x63, x1, x2⟩ := HS.out.2 x (List.mem_of_getElem? hx)
              have HX := hide hx
              clear hx
              have hbit := bit_spec x0 x63 (k := m) (by omega)
              have hcm : bits BinOp.and IntKind.i64 x.1 set = landI set x.1 := landI_comm _ _
              cases hbk : bitAt x.1 m
              · go_wp2
                refine wp_region_X (by kernel_rfl) (by kernel_rfl) ?_
                repeat' (refine wpX_stepQ (fun K hK => ?_)
                         go_simp
                         try split
                         all_goals
                           first
                           | (refine hK _ ?_
                              clear hK K)
                           | (apply Exists.intro
                              refine ⟨fun wq hwq => ?_, hK _ ?_⟩
                              · have hcq := hwq.cellS
                                go_simp
                                first
                                | exact ⟨Ext.refl _, rfl⟩
                              clear hK K))
                refine wpX_nil (fun wz hwz => ?_)
                go_wp2
                exact ⟨⟨j + 1, by omega, by go_num, by rw [sumIf_at HX.out]; simp [hbk], (by repeat (first | exact Ext.refl _ | assumption | refine Ext.alloc ?_ _ | refine Ext.drew ?_ | refine Ext.trans ?_ (by assumption)))⟩, by simp [intOf]; omega⟩
              · cases hls : (landI set x.1 == 0)
                · go_wp2
                  refine wp_region_X (by kernel_rfl) (by kernel_rfl) ?_
                  repeat' (refine wpX_stepQ (fun K hK => ?_)
                           go_simp
                           try split
                           all_goals
                             first
                             | (refine hK _ ?_
                                clear hK K)
                             | (apply Exists.intro
                                refine ⟨fun wq hwq => ?_, hK _ ?_⟩
                                · have hcq := hwq.cellS
                                  go_simp
                                  first
                                  | exact ⟨Ext.refl _, rfl⟩
                                clear hK K))
                  refine wpX_nil (fun wz hwz => ?_)
                  go_wp2
                  exact ⟨⟨j + 1, by omega, by go_num, by rw [sumIf_at HX.out]; simp [hbk, hls], (by repeat (first | exact Ext.refl _ | assumption | refine Ext.alloc ?_ _ | refine Ext.drew ?_ | refine Ext.trans ?_ (by assumption)))⟩, by simp [intOf]; omega⟩
                · go_wp2
                  refine wp_region_X (by kernel_rfl) (by kernel_rfl) ?_
                  repeat' (refine wpX_stepQ (fun K hK => ?_)
                           go_simp
                           try split
                           all_goals
                             first
                             | (refine hK _ ?_
                                clear hK K)
                             | (apply Exists.intro
                                refine ⟨fun wq hwq => ?_, hK _ ?_⟩
                                · have hcq := hwq.cellS
                                  go_simp
                                  first
                                  | exact ⟨Ext.refl _, rfl⟩
                                clear hK K))
                  refine wpX_nil (fun wz hwz => ?_)
                  have e1 := hwz.keep (new1 wr _ _ _ _)
                  go_wp2
                  exact ⟨⟨j + 1, by omega, by go_num, by rw [sumIf_at HX.out]; simp [hbk, hls], (by repeat (first | exact Ext.refl _ | assumption | refine Ext.alloc ?_ _ | refine Ext.drew ?_ | refine Ext.trans ?_ (by assumption)))⟩, by simp [intOf]; omega⟩
            · obtain rfl : j = bs.length := by omega
              rw [List.take_length]
              have hcj : sumIf (fun s => bitAt s m && (landI set s == 0)) bs = cntJ bs set m := rfl
              rw [hcj]
              clear hcj t0 t1
              obtain ⟨cj0, cj1⟩ := cntJ_bd HS.out set m
              have hkm0 : 0 ≤ cntJ bs set m * k := Int.mul_nonneg cj0 (by omega)
              have hkm1 : cntJ bs set m * k ≤ 12000 * 6 := Int.mul_le_mul cj1 (by omega) (by omega) (by decide)
              by_cases b1 : 1 ≤ cntJ bs set m <;> by_cases b2 : allV bs ≤ cntJ bs set m * k
              · go_wp2
                go_ret
                refine ⟨ret_bool ?_, (by repeat (first | exact Ext.refl _ | assumption | refine Ext.alloc ?_ _ | refine Ext.drew ?_ | refine Ext.trans ?_ (by assumption)))⟩
                symm
                have hb : badJ bs set k m = true := by simp [badJ, b1, b2]
                have : (List.range n).all (fun a => !badJ bs set k a) = false := by
                  rw [List.all_eq_false]
                  exact ⟨m, List.mem_range.2 hlt, by simp [hb]⟩
                simp [justOf, this]
              all_goals
                have hb : Hid (badJ bs set k m = false) := by show badJ bs set k m = false; simp [badJ]; omega
                go_wp2
                refine ⟨⟨m + 1, by omega, by go_num, ?_, (by repeat (first | exact Ext.refl _ | assumption | refine Ext.alloc ?_ _ | refine Ext.drew ?_ | refine Ext.trans ?_ (by assumption)))⟩, by simp [intOf]; omega⟩
                rw [List.range_succ, List.all_append, HA.out]
                simp [hb.out]
        · obtain rfl : m = n := by omega
          go_wp2
          go_ret
          exact ⟨ret_bool (by simp [justOf, hj.out, HA.out]), hww.trans hwr⟩
end Go.Proofs.Ytdkkmhncdlaphaa
