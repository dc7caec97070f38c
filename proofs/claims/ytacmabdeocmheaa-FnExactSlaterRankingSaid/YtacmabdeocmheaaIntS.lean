/- Lists of integers as the statements' helpers meet them: compared, marked, held. -/
import Derived.Test.YtacmabdeocmheaaMem
namespace Go.Proofs.Ytacmabdeocmheaa
open Go.RowKit
set_option maxRecDepth 100000 in
set_option maxHeartbeats 1000000 in
theorem eqISn (w : World) (a1 a2 : Option Addr) (c1 c2 n : Nat) (xs ys : List Int) (hX : RdI w a1 xs) (hY : RdI w a2 ys) (hl : n ≤ 2000000) (hxn : Hid (xs.length = n)) (hyn : Hid (ys.length = n)) :
    Calls Try.prog 30 #[.slice a1 n c1, .slice a2 n c2] w fun e w' => e = .returned (.bool (decide (xs = ys))) ∧ Ext w w' := by
  go_enter Try.func30, Try.ntmps30
  go_wp2_with fail
  go_loopw [5] (fun i wr => ∃ k : Nat, k ≤ n ∧ i = .int .i64 k ∧ Hid (xs.take k = ys.take k) ∧ Ext w wr) (fun i _ => n - (intOf i).toNat)
  case atStart => exact ⟨0, Nat.zero_le _, rfl, rfl, Ext.refl _⟩
  case round =>
    obtain ⟨k, hk, rfl, hall, hwr⟩ := hrel
    by_cases hlt : k < n
    · obtain ⟨x, hx⟩ := at_of_lt (xs := xs) (k := k) (by rw [hxn.out]; exact hlt)
      obtain ⟨y, hy⟩ := at_of_lt (xs := ys) (k := k) (by rw [hyn.out]; exact hlt)
      obtain ⟨b, off, rfl, c0⟩ := (hX.ext hwr).at_ hx
      obtain ⟨b', off', rfl, d0⟩ := (hY.ext hwr).at_ hy
      have hx' := hide hx
      have hy' := hide hy
      clear hx hy
      cases e : (x != y)
      all_goals
        go_wp2
        refine wp_region_X (by kernel_rfl) (by kernel_rfl) ?_
        repeat' (refine wpX_stepQ (fun K hK => ?_)
                 go_simp
                 try (rw [if_neg (by intro h; simp [undef] at h)])
                 try split
                 all_goals
                   first
                   | (refine hK _ ?_
                      clear hK K)
                   | (apply Exists.intro
                      refine ⟨fun wq hwq => ?_, hK _ ?_⟩
                      · have hcq := hwq.cellS
                        go_simp
                        first
                        | exact ⟨Ext.refl _, rfl⟩
                      clear hK K))
        refine wpX_nil (fun wz hwz => ?_)
        go_wp2
      · exact ⟨⟨k + 1, by omega, by go_num, take_ext hall.out hx'.out hy'.out (by simpa using e), hwr.trans hwz⟩, by simp [intOf]; omega⟩
      · go_ret
        refine ⟨ret_bool ?_, hwr.trans hwz⟩
        have h1 := hx'.out
        have h2 := hy'.out
        symm
        rw [decide_eq_false_iff_not]
        rintro rfl
        rw [h1] at h2
        injection h2 with h2
        simp [h2] at e
    · go_wp2
      go_ret
      refine ⟨ret_bool ?_, hwr⟩
      have h := hall.out
      rw [List.take_of_length_le (by rw [hxn.out]; omega), List.take_of_length_le (by rw [hyn.out]; omega)] at h
      simp [h]

set_option maxRecDepth 100000 in
theorem eqIS (w : World) (a1 a2 : Option Addr) (c1 c2 : Nat) (xs ys : List Int) (hX : RdI w a1 xs) (hY : RdI w a2 ys) (hl : xs.length ≤ 2000000) :
    Calls Try.prog 30 #[.slice a1 xs.length c1, .slice a2 ys.length c2] w fun e w' => e = .returned (.bool (decide (xs = ys))) ∧ Ext w w' := by
  by_cases hlen : xs.length = ys.length
  · rw [← hlen]
    exact eqISn w a1 a2 c1 c2 xs.length xs ys hX hY hl rfl hlen.symm
  · go_enter Try.func30, Try.ntmps30
    go_wp2
    go_ret
    exact ⟨ret_bool (by simp; rintro rfl; exact hlen rfl), (by repeat (first | exact Ext.refl _ | assumption | refine Ext.alloc ?_ _ | refine Ext.drew ?_ | refine Ext.trans ?_ (by assumption)))⟩

set_option maxRecDepth 100000 in
set_option maxHeartbeats 1000000 in
theorem markIS (w : World) (g n c : Nat) (f : Nat → Value) (k0 : Int) (hB : BlkF w g n f) (hn : n ≤ 2000000) (h0 : 0 ≤ k0) (h1 : k0 ≤ 2000000) :
    Calls Try.prog 31 #[.slice (some ⟨g, 0, none⟩) n c, .int .i64 k0] w fun e w' => e = .returned (.int .i64 (k0 + n)) ∧ Only g w w' ∧ BlkF w' g n (fun j => .int .i64 (k0 + j)) := by
  go_enter Try.func31, Try.ntmps31
  go_wp2
  go_loopw [1, 5] (fun m i wr => ∃ (k : Nat) (f : Nat → Value), k ≤ n ∧ i = .int .i64 k ∧ m = .int .i64 (k0 + k) ∧ BlkF wr g n f ∧ (∀ j, j < k → f j = .int .i64 (k0 + j)) ∧ Only g w wr) (fun _ i _ => n - (intOf i).toNat)
  case atStart => exact ⟨0, f, Nat.zero_le _, rfl, by go_num, hB, fun j hj => absurd hj (by omega), Only.refl _ _⟩
  case round =>
    obtain ⟨k, f1, hk, rfl, rfl, hB1, hf, hO⟩ := hrel
    have HF := hide hf
    clear hf
    by_cases hlt : k < n
    · have d0 := hB1.cell k hlt
      have z0 := hB1.fr k
      go_wp2
      refine ⟨⟨k + 1, _, by omega, by go_num, by go_num, hB1.set k hlt _, fun j hj => ?_, hO.setCell _ _⟩, by simp [intOf]; omega⟩
      by_cases e : j = k
      · subst e; rw [if_pos rfl]
      · rw [if_neg e]; exact HF.out j (by omega)
    · obtain rfl : k = n := by omega
      go_wp2
      go_ret
      exact ⟨rfl, hO, hB1.lt, hB1.fr, fun o ho => by rw [hB1.cell o ho, HF.out o ho]⟩

set_option maxRecDepth 100000 in
theorem markIS0 (w : World) (a : Option Addr) (c : Nat) (k0 : Int) :
    Calls Try.prog 31 #[.slice a 0 c, .int .i64 k0] w fun e w' => e = .returned (.int .i64 k0) ∧ w = w' := by
  go_enter Try.func31, Try.ntmps31
  go_wp2
  refine wp_loop_rounds 1 ?_
  rw [rounds_succ]
  go_wp2
  go_ret
  exact ⟨rfl, rfl⟩

set_option maxRecDepth 100000 in
set_option maxHeartbeats 1000000 in
theorem heldIS (w : World) (a : Option Addr) (c n : Nat) (k0 : Int) (xs : List Int) (hX : RdI w a xs) (hxn : Hid (xs.length = n)) (hv : Hid (∀ (j : Nat) (x : Int), xs[j]? = some x → x = k0 + j)) (hn : n ≤ 2000000) (h0 : 0 ≤ k0) (h1 : k0 ≤ 2000000) :
    Calls Try.prog 32 #[.slice a n c, .int .i64 k0] w fun e w' => e = .returned (.int .i64 (k0 + n)) ∧ Ext w w' := by
  go_enter Try.func32, Try.ntmps32
  go_wp2
  go_loopw [1, 5] (fun m i wr => ∃ (k : Nat), k ≤ n ∧ i = .int .i64 k ∧ m = .int .i64 (k0 + k) ∧ Ext w wr) (fun _ i _ => n - (intOf i).toNat)
  case atStart => exact ⟨0, Nat.zero_le _, rfl, by go_num, Ext.refl _⟩
  case round =>
    obtain ⟨k, hk, rfl, rfl, hwr⟩ := hrel
    by_cases hlt : k < n
    · obtain ⟨x, hx⟩ := at_of_lt (xs := xs) (k := k) (by rw [hxn.out]; exact hlt)
      obtain ⟨b, off, rfl, c0⟩ := (hX.ext hwr).at_ hx
      have e := hv.out k x hx
      subst e
      clear hx
      go_wp2
      exact ⟨⟨k + 1, by omega, by go_num, by go_num, hwr⟩, by simp [intOf]; omega⟩
    · obtain rfl : k = n := by omega
      go_wp2
      go_ret
      exact ⟨rfl, hwr⟩

set_option maxRecDepth 100000 in
theorem eqI2 (w : World) (B1 B2 : Nat) (v1 v2 : Value) (xs ys : List Int) (h1 : RdB w B1 v1 xs) (h2 : RdB w B2 v2 ys) (hl : xs.length ≤ 2000000) :
    Calls Try.prog 30 #[v1, v2] w fun e w' => e = .returned (.bool (decide (xs = ys))) ∧ Ext w w' := by
  obtain ⟨a1, c1, rfl, hR1, _⟩ := h1
  obtain ⟨a2, c2, rfl, hR2, _⟩ := h2
  exact eqIS w a1 a2 c1 c2 xs ys hR1 hR2 hl

set_option maxRecDepth 100000 in
theorem eqI_same (w : World) (B1 B2 : Nat) (v1 v2 : Value) (xs : List Int) (h1 : RdB w B1 v1 xs) (h2 : RdB w B2 v2 xs) (hl : xs.length ≤ 2000000) :
    Calls Try.prog 30 #[v1, v2] w fun e w' => e = .returned (.bool true) ∧ Ext w w' :=
  (eqI2 w B1 B2 v1 v2 xs xs h1 h2 hl).mono fun _ _ ⟨he, hw⟩ => ⟨by rw [he]; simp, hw⟩

set_option maxRecDepth 100000 in
theorem markI (w : World) (B : Nat) (v : Value) (xs : List Int) (k0 : Int) (h : OwnI w B v xs) (hB : B ≤ w.heap.size) (hl : xs.length ≤ 1000000) (h0 : 0 ≤ k0) (h1 : k0 ≤ 1000000) :
    Calls Try.prog 31 #[v, .int .i64 k0] w fun e w' => e = .returned (.int .i64 (k0 + xs.length)) ∧ ∃ g, B ≤ g ∧ Only g w w' ∧ Marks w' v xs.length k0 := by
  obtain ⟨a, c, rfl, _, _, _, ho⟩ := h.val
  by_cases hne : xs = []
  · subst hne
    refine (markIS0 w a c k0).mono ?_
    rintro e w' ⟨rfl, rfl⟩
    exact ⟨by simp, w.heap.size, hB, Only.refl _ _, a, c, rfl, RdI.nil _ _⟩
  · obtain ⟨g, rfl, hg, hb⟩ := ho hne
    refine (markIS w g xs.length c _ k0 hb (by omega) h0 (by omega)).mono ?_
    rintro e w' ⟨rfl, hO, hB'⟩
    refine ⟨rfl, g, hg, hO, some ⟨g, 0, none⟩, c, rfl, fun _ => ⟨g, 0, rfl, fun j x hx => ?_⟩⟩
    have hj := lt_of_at hx
    rw [List.length_map, List.length_range] at hj
    rw [Nat.zero_add, hB'.cell j hj]
    simp only [List.getElem?_map, List.getElem?_range hj, Option.map_some] at hx
    injection hx with hx
    rw [← hx]

set_option maxRecDepth 100000 in
theorem heldI (w : World) (v : Value) (n : Nat) (k0 : Int) (h : Marks w v n k0) (hn : n ≤ 1000000) (h0 : 0 ≤ k0) (h1 : k0 ≤ 1000000) :
    Calls Try.prog 32 #[v, .int .i64 k0] w fun e w' => e = .returned (.int .i64 (k0 + n)) ∧ Ext w w' := by
  obtain ⟨a, c, rfl, hR⟩ := h
  refine heldIS w a c n k0 _ hR (by show _ = _; simp) (fun j x hx => ?_) (by omega) h0 (by omega)
  have hj := lt_of_at hx
  rw [List.length_map, List.length_range] at hj
  simp only [List.getElem?_map, List.getElem?_range hj, Option.map_some] at hx
  injection hx with hx
  exact hx.symm

end Go.Proofs.Ytacmabdeocmheaa
