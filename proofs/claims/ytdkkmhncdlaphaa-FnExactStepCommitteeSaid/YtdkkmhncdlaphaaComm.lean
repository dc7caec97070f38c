/- CommitteesOf of both packages. -/
import Derived.Test.YtdkkmhncdlaphaaScores
namespace Go.Proofs.Ytdkkmhncdlaphaa
open Go.RowKit

/-- The sets below m with k members. -/
def commTo (m : Nat) (k : Int) : List Int := ((List.range m).map (fun i : Nat => (i : Int))).filter (fun s => decide (cntTo s 6 = k))
theorem commTo_succ (m : Nat) (k : Int) : commTo (m + 1) k = commTo m k ++ if cntTo (m : Int) 6 = k then [(m : Int)] else [] := by
  unfold commTo
  rw [List.range_succ, List.map_append, List.filter_append]
  by_cases h : cntTo (m : Int) 6 = k <;> simp [h]
theorem commTo_len (m : Nat) (k : Int) : (commTo m k).length ≤ m := by
  unfold commTo
  have := List.length_filter_le (fun s => decide (cntTo s 6 = k)) ((List.range m).map (fun i : Nat => (i : Int)))
  simpa using this
theorem commTo_mem {m : Nat} {k s : Int} (h : s ∈ commTo m k) : 0 ≤ s ∧ s < m ∧ cntTo s 6 = k := by
  unfold commTo at h
  rw [List.mem_filter] at h
  obtain ⟨h1, h2⟩ := h
  obtain ⟨i, hi, rfl⟩ := List.mem_map.1 h1
  rw [List.mem_range] at hi
  refine ⟨by omega, by omega, by simpa using h2⟩
def commOf (sz : Int) (bs : List (Int × Int)) (k : Int) : List Int := if appOk sz bs && inR k 1 sz then commTo (topOf sz + 1).toNat k else []
theorem topN {sz : Int} (h1 : 1 ≤ sz) (h6 : sz ≤ 6) : ∃ t : Nat, topOf sz + 1 = (t : Int) ∧ 1 ≤ t ∧ t ≤ 64 := by
  have : sz = 1 ∨ sz = 2 ∨ sz = 3 ∨ sz = 4 ∨ sz = 5 ∨ sz = 6 := by omega
  rcases this with rfl | rfl | rfl | rfl | rfl | rfl
  · exact ⟨2, by decide, by decide, by decide⟩
  · exact ⟨4, by decide, by decide, by decide⟩
  · exact ⟨8, by decide, by decide, by decide⟩
  · exact ⟨16, by decide, by decide, by decide⟩
  · exact ⟨32, by decide, by decide, by decide⟩
  · exact ⟨64, by decide, by decide, by decide⟩

set_option maxRecDepth 100000 in
set_option maxHeartbeats 4000000 in
theorem comm_impl (w : World) (sz k : Int) (a : Option Addr) (c : Nat) (bs : List (Int × Int)) (hR : RdP w a bs) :
    Calls Try.prog 31 #[.agg #[.int .i64 sz, .slice a bs.length c], .int .i64 k] w fun e w' => ∃ v, e = .returned v ∧ OwnI w' w.heap.size v (commOf sz bs k) ∧ Ext w w' := by
  have q0 := new0 w (.int .i64 sz) [.slice a bs.length c] 29
  have q1 := new1 w (.int .i64 sz) (.slice a bs.length c) [] 29
  cases h1 : appOk sz bs
  · go_enter Try.func31, Try.ntmps31
    go_wp2_with (go_at_call 46; refine (ok_impl _ _ _ _ _ (hR.ext (by repeat (first | exact Ext.refl _ | assumption | refine Ext.alloc ?_ _ | refine Ext.drew ?_ | refine Ext.trans ?_ (by assumption))))).mono ?_; rintro e w1 ⟨rfl, hw1⟩; have q0 := Ext.keep (w' := w1) (by repeat (first | exact Ext.refl _ | assumption | refine Ext.alloc ?_ _ | refine Ext.drew ?_ | refine Ext.trans ?_ (by assumption))) q0; have q1 := Ext.keep (w' := w1) (by repeat (first | exact Ext.refl _ | assumption | refine Ext.alloc ?_ _ | refine Ext.drew ?_ | refine Ext.trans ?_ (by assumption))) q1)
    go_ret
    exact ⟨_, rfl, by simp [commOf, h1]; exact OwnI.nil _ _, (by repeat (first | exact Ext.refl _ | assumption | refine Ext.alloc ?_ _ | refine Ext.drew ?_ | refine Ext.trans ?_ (by assumption)))⟩
  cases h2 : inR k 1 sz
  · go_enter Try.func31, Try.ntmps31
    go_wp2_with (first | (go_at_call 46; refine (ok_impl _ _ _ _ _ (hR.ext (by repeat (first | exact Ext.refl _ | assumption | refine Ext.alloc ?_ _ | refine Ext.drew ?_ | refine Ext.trans ?_ (by assumption))))).mono ?_; rintro e w1 ⟨rfl, hw1⟩; have q0 := Ext.keep (w' := w1) (by repeat (first | exact Ext.refl _ | assumption | refine Ext.alloc ?_ _ | refine Ext.drew ?_ | refine Ext.trans ?_ (by assumption))) q0; have q1 := Ext.keep (w' := w1) (by repeat (first | exact Ext.refl _ | assumption | refine Ext.alloc ?_ _ | refine Ext.drew ?_ | refine Ext.trans ?_ (by assumption))) q1) | (go_at_call 48; refine (in_impl _ _ _ _).mono ?_; rintro e w1 ⟨rfl, hw1⟩))
    go_ret
    exact ⟨_, rfl, by simp [commOf, h2]; exact OwnI.nil _ _, (by repeat (first | exact Ext.refl _ | assumption | refine Ext.alloc ?_ _ | refine Ext.drew ?_ | refine Ext.trans ?_ (by assumption)))⟩
  obtain ⟨hlo, hhi⟩ := ok_size h1
  obtain ⟨t, ht, t1, t64⟩ := topN hlo hhi
  have hsh : wrap64 (2 ^ sz.toNat) = (t : Int) := by rw [← IntWalk.i64_left, shl_wrap (by omega) hhi, ht]
  have HT := hide ht
  clear ht
  go_enter Try.func31, Try.ntmps31
  go_wp2_with (first | (go_at_call 46; refine (ok_impl _ _ _ _ _ (hR.ext (by repeat (first | exact Ext.refl _ | assumption | refine Ext.alloc ?_ _ | refine Ext.drew ?_ | refine Ext.trans ?_ (by assumption))))).mono ?_; rintro e w1 ⟨rfl, hw1⟩; have q0 := Ext.keep (w' := w1) (by repeat (first | exact Ext.refl _ | assumption | refine Ext.alloc ?_ _ | refine Ext.drew ?_ | refine Ext.trans ?_ (by assumption))) q0; have q1 := Ext.keep (w' := w1) (by repeat (first | exact Ext.refl _ | assumption | refine Ext.alloc ?_ _ | refine Ext.drew ?_ | refine Ext.trans ?_ (by assumption))) q1) | (go_at_call 48; refine (in_impl _ _ _ _).mono ?_; rintro e w1 ⟨rfl, hw1⟩; have q0 := Ext.keep (w' := w1) (by repeat (first | exact Ext.refl _ | assumption | refine Ext.alloc ?_ _ | refine Ext.drew ?_ | refine Ext.trans ?_ (by assumption))) q0; have q1 := Ext.keep (w' := w1) (by repeat (first | exact Ext.refl _ | assumption | refine Ext.alloc ?_ _ | refine Ext.drew ?_ | refine Ext.trans ?_ (by assumption))) q1))
  have hw : Ext w w1 := (by repeat (first | exact Ext.refl _ | assumption | refine Ext.alloc ?_ _ | refine Ext.drew ?_ | refine Ext.trans ?_ (by assumption)))
  obtain ⟨W0, rfl⟩ : ∃ W0 : World, W0 = w1 := ⟨_, rfl⟩
  simp only [hsh]
  go_loopw [5, 6, 20] (fun v _ i wr => ∃ m : Nat, m ≤ t ∧ i = .int .i64 m ∧ OwnI wr W0.heap.size v (commTo m k) ∧ Ext W0 wr) (fun _ _ i _ => t - (intOf i).toNat)
  case atStart => exact ⟨0, Nat.zero_le _, rfl, OwnI.nil _ _, Ext.refl _⟩
  case round =>
    obtain ⟨m, hm, rfl, hown, hwr⟩ := hrel
    have hlen := commTo_len m k
    by_cases hlt : m < t
    · have hsucc := commTo_succ m k
      have HS := hide hsucc
      clear hsucc
      by_cases hc : cntTo (m : Int) 6 = k
      · have hcb : (cntTo (m : Int) 6 == k) = true := by simpa using hc
        have HC := hide hc
        clear hc
        go_wp2_with (first | (go_at_call 49; refine (size_impl _ _ (by omega) (by omega)).mono ?_; rintro e w1 ⟨rfl, hw1⟩) | (at_builtin; refine wpList_appI W0 _ rfl _ _ rfl _ (commTo m k) _ rfl (hown.ext (by repeat (first | exact Ext.refl _ | assumption | refine Ext.alloc ?_ _ | refine Ext.drew ?_ | refine Ext.trans ?_ (by assumption)))) (by repeat (first | exact Ext.refl _ | assumption | refine Ext.alloc ?_ _ | refine Ext.drew ?_ | refine Ext.trans ?_ (by assumption))) rfl (by omega) ?_; intro v' w3 hown3 hw3))
        exact ⟨⟨m + 1, by omega, by go_num, by rw [HS.out, if_pos HC.out]; exact hown3, hw3⟩, by simp [intOf]; omega⟩
      · have hcb : (cntTo (m : Int) 6 == k) = false := by simpa using hc
        have HC := hide hc
        clear hc
        go_wp2_with (first | (go_at_call 49; refine (size_impl _ _ (by omega) (by omega)).mono ?_; rintro e w1 ⟨rfl, hw1⟩))
        exact ⟨⟨m + 1, by omega, by go_num, by rw [HS.out, if_neg HC.out, List.append_nil]; exact hown.ext (by repeat (first | exact Ext.refl _ | assumption | refine Ext.alloc ?_ _ | refine Ext.drew ?_ | refine Ext.trans ?_ (by assumption))), (by repeat (first | exact Ext.refl _ | assumption | refine Ext.alloc ?_ _ | refine Ext.drew ?_ | refine Ext.trans ?_ (by assumption)))⟩, by simp [intOf]; omega⟩
    · obtain rfl : m = t := by omega
      go_wp2
      go_ret
      exact ⟨_, rfl, by simp [commOf, h1, h2, HT.out]; exact hown.base hw.size, hw.trans hwr⟩

set_option maxRecDepth 100000 in
set_option maxHeartbeats 4000000 in
theorem comm_spec (w : World) (sz k : Int) (a : Option Addr) (c : Nat) (bs : List (Int × Int)) (hR : RdP w a bs) :
    Calls Try.prog 30 #[.agg #[.int .i64 sz, .slice a bs.length c], .int .i64 k] w fun e w' => ∃ v, e = .returned v ∧ OwnI w' w.heap.size v (commOf sz bs k) ∧ Ext w w' := by
  have q0 := new0 w (.int .i64 sz) [.slice a bs.length c] 29
  have q1 := new1 w (.int .i64 sz) (.slice a bs.length c) [] 29
  cases h1 : appOk sz bs
  · go_enter Try.func30, Try.ntmps30
    go_wp2_with (go_at_call 42; refine (ok_spec _ _ _ _ _ (hR.ext (by repeat (first | exact Ext.refl _ | assumption | refine Ext.alloc ?_ _ | refine Ext.drew ?_ | refine Ext.trans ?_ (by assumption))))).mono ?_; rintro e w1 ⟨rfl, hw1⟩; have q0 := Ext.keep (w' := w1) (by repeat (first | exact Ext.refl _ | assumption | refine Ext.alloc ?_ _ | refine Ext.drew ?_ | refine Ext.trans ?_ (by assumption))) q0; have q1 := Ext.keep (w' := w1) (by repeat (first | exact Ext.refl _ | assumption | refine Ext.alloc ?_ _ | refine Ext.drew ?_ | refine Ext.trans ?_ (by assumption))) q1)
    go_ret
    exact ⟨_, rfl, by simp [commOf, h1]; exact OwnI.nil _ _, (by repeat (first | exact Ext.refl _ | assumption | refine Ext.alloc ?_ _ | refine Ext.drew ?_ | refine Ext.trans ?_ (by assumption)))⟩
  cases h2 : inR k 1 sz
  · go_enter Try.func30, Try.ntmps30
    go_wp2_with (first | (go_at_call 42; refine (ok_spec _ _ _ _ _ (hR.ext (by repeat (first | exact Ext.refl _ | assumption | refine Ext.alloc ?_ _ | refine Ext.drew ?_ | refine Ext.trans ?_ (by assumption))))).mono ?_; rintro e w1 ⟨rfl, hw1⟩; have q0 := Ext.keep (w' := w1) (by repeat (first | exact Ext.refl _ | assumption | refine Ext.alloc ?_ _ | refine Ext.drew ?_ | refine Ext.trans ?_ (by assumption))) q0; have q1 := Ext.keep (w' := w1) (by repeat (first | exact Ext.refl _ | assumption | refine Ext.alloc ?_ _ | refine Ext.drew ?_ | refine Ext.trans ?_ (by assumption))) q1) | (go_at_call 43; refine (in_spec _ _ _ _).mono ?_; rintro e w1 ⟨rfl, hw1⟩))
    go_ret
    exact ⟨_, rfl, by simp [commOf, h2]; exact OwnI.nil _ _, (by repeat (first | exact Ext.refl _ | assumption | refine Ext.alloc ?_ _ | refine Ext.drew ?_ | refine Ext.trans ?_ (by assumption)))⟩
  obtain ⟨hlo, hhi⟩ := ok_size h1
  obtain ⟨t, ht, t1, t64⟩ := topN hlo hhi
  have hsh : wrap64 (2 ^ sz.toNat) = (t : Int) := by rw [← IntWalk.i64_left, shl_wrap (by omega) hhi, ht]
  have HT := hide ht
  clear ht
  go_enter Try.func30, Try.ntmps30
  go_wp2_with (first | (go_at_call 42; refine (ok_spec _ _ _ _ _ (hR.ext (by repeat (first | exact Ext.refl _ | assumption | refine Ext.alloc ?_ _ | refine Ext.drew ?_ | refine Ext.trans ?_ (by assumption))))).mono ?_; rintro e w1 ⟨rfl, hw1⟩; have q0 := Ext.keep (w' := w1) (by repeat (first | exact Ext.refl _ | assumption | refine Ext.alloc ?_ _ | refine Ext.drew ?_ | refine Ext.trans ?_ (by assumption))) q0; have q1 := Ext.keep (w' := w1) (by repeat (first | exact Ext.refl _ | assumption | refine Ext.alloc ?_ _ | refine Ext.drew ?_ | refine Ext.trans ?_ (by assumption))) q1) | (go_at_call 43; refine (in_spec _ _ _ _).mono ?_; rintro e w1 ⟨rfl, hw1⟩; have q0 := Ext.keep (w' := w1) (by repeat (first | exact Ext.refl _ | assumption | refine Ext.alloc ?_ _ | refine Ext.drew ?_ | refine Ext.trans ?_ (by assumption))) q0; have q1 := Ext.keep (w' := w1) (by repeat (first | exact Ext.refl _ | assumption | refine Ext.alloc ?_ _ | refine Ext.drew ?_ | refine Ext.trans ?_ (by assumption))) q1))
  have hw : Ext w w1 := (by repeat (first | exact Ext.refl _ | assumption | refine Ext.alloc ?_ _ | refine Ext.drew ?_ | refine Ext.trans ?_ (by assumption)))
  obtain ⟨W0, rfl⟩ : ∃ W0 : World, W0 = w1 := ⟨_, rfl⟩
  go_loopw [5, 6, 18, 19, 20, 21] (fun v i _ _ _ _ wr => ∃ m : Nat, m ≤ t ∧ i = .int .i64 m ∧ OwnI wr W0.heap.size v (commTo m k) ∧ Ext W0 wr) (fun _ i _ _ _ _ _ => t - (intOf i).toNat)
  case atStart => exact ⟨0, Nat.zero_le _, rfl, OwnI.made0 _, (by repeat (first | exact Ext.refl _ | assumption | refine Ext.alloc ?_ _ | refine Ext.drew ?_ | refine Ext.trans ?_ (by assumption)))⟩
  case round =>
    obtain ⟨m, hm, rfl, hown, hwr⟩ := hrel
    have hlen := commTo_len m k
    have q0 := hwr.keep q0
    by_cases hlt : m < t
    · have hsucc := commTo_succ m k
      have HS := hide hsucc
      clear hsucc
      by_cases hc : cntTo (m : Int) 6 = k
      · have hcb : (cntTo (m : Int) 6 == k) = true := by simpa using hc
        have HC := hide hc
        clear hc
        go_wp2_with (first | (go_at_call 44; refine (cnt_spec _ _ (by omega) (by omega)).mono ?_; rintro e w1 ⟨rfl, hw1⟩) | (at_builtin; refine wpList_appI W0 _ rfl _ _ rfl _ (commTo m k) _ rfl (hown.ext (by repeat (first | exact Ext.refl _ | assumption | refine Ext.alloc ?_ _ | refine Ext.drew ?_ | refine Ext.trans ?_ (by assumption)))) (by repeat (first | exact Ext.refl _ | assumption | refine Ext.alloc ?_ _ | refine Ext.drew ?_ | refine Ext.trans ?_ (by assumption))) rfl (by omega) ?_; intro v' w3 hown3 hw3))
        exact ⟨⟨m + 1, by omega, by go_num, by rw [HS.out, if_pos HC.out]; exact hown3, hw3⟩, by simp [intOf]; omega⟩
      · have hcb : (cntTo (m : Int) 6 == k) = false := by simpa using hc
        have HC := hide hc
        clear hc
        go_wp2_with (first | (go_at_call 44; refine (cnt_spec _ _ (by omega) (by omega)).mono ?_; rintro e w1 ⟨rfl, hw1⟩))
        exact ⟨⟨m + 1, by omega, by go_num, by rw [HS.out, if_neg HC.out, List.append_nil]; exact hown.ext (by repeat (first | exact Ext.refl _ | assumption | refine Ext.alloc ?_ _ | refine Ext.drew ?_ | refine Ext.trans ?_ (by assumption))), (by repeat (first | exact Ext.refl _ | assumption | refine Ext.alloc ?_ _ | refine Ext.drew ?_ | refine Ext.trans ?_ (by assumption)))⟩, by simp [intOf]; omega⟩
    · obtain rfl : m = t := by omega
      go_wp2
      go_ret
      exact ⟨_, rfl, by simp [commOf, h1, h2, HT.out]; exact hown.base hw.size, hw.trans hwr⟩
theorem commOf_len (sz k : Int) (bs : List (Int × Int)) : (commOf sz bs k).length ≤ 64 := by
  unfold commOf
  split
  · rename_i h
    have h1 : appOk sz bs = true := by simp only [Bool.and_eq_true] at h; exact h.1
    obtain ⟨hlo, hhi⟩ := ok_size h1
    have := top_le hlo hhi
    have := commTo_len (topOf sz + 1).toNat k
    omega
  · simp

end Go.Proofs.Ytdkkmhncdlaphaa
