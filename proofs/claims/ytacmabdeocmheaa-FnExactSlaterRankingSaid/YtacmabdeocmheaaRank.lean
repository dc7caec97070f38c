/- Which rankings are valid: both packages' tests answer as one plain function. -/
import Derived.Test.YtacmabdeocmheaaSmall
import Derived.Test.YtacmabdeocmheaaFindI
namespace Go.Proofs.Ytacmabdeocmheaa
open Go.RowKit

def rkOk (m : Int) (xs : List Int) : Bool := inR m 1 5 && (decide ((xs.length : Int) = m) && (xs.all (fun x => inR x 0 (m - 1)) && decide xs.Nodup))
def preOk (m : Int) (xs : List Int) (k : Nat) : Prop := (xs.take k).all (fun x => inR x 0 (m - 1)) = true ∧ (xs.take k).Nodup
set_option maxRecDepth 100000 in
theorem pre_zero (m : Int) (xs : List Int) : preOk m xs 0 := by simp [preOk]
set_option maxRecDepth 100000 in
theorem pre_succ {m : Int} {xs : List Int} {k : Nat} {x : Int} (hx : xs[k]? = some x) (h : preOk m xs k) (h1 : inR x 0 (m - 1) = true) (h2 : x ∉ xs.take k) : preOk m xs (k + 1) := by
  refine ⟨(all_take hx h.1).trans h1, ?_⟩
  rw [take_at hx, List.nodup_append]
  refine ⟨h.2, by simp, fun a ha b hb => ?_⟩
  simp at hb
  subst hb
  rintro rfl
  exact h2 ha
set_option maxRecDepth 100000 in
theorem rk_false1 {m : Int} {xs : List Int} {k : Nat} {x : Int} (hx : xs[k]? = some x) (h1 : inR x 0 (m - 1) = false) : rkOk m xs = false := by
  have : xs.all (fun x => inR x 0 (m - 1)) = false := all_false hx h1
  simp [rkOk, this]
set_option maxRecDepth 100000 in
theorem rk_false2 {m : Int} {xs : List Int} {k : Nat} {x : Int} (hx : xs[k]? = some x) (h1 : x ∈ xs.take k) : rkOk m xs = false := by
  have : ¬ xs.Nodup := fun hn => by
    have h2 : (xs.take (k + 1)).Nodup := hn.sublist (List.take_sublist _ _)
    rw [take_at hx, List.nodup_append] at h2
    exact h2.2.2 x h1 x (by simp) rfl
  simp [rkOk, this]
set_option maxRecDepth 100000 in
theorem rk_true {m : Int} {xs : List Int} (h1 : inR m 1 5 = true) (h2 : (xs.length : Int) = m) (h : preOk m xs xs.length) : rkOk m xs = true := by
  unfold preOk at h
  rw [List.take_length] at h
  simp only [rkOk, h1, h.1, decide_eq_true h2, decide_eq_true h.2]; rfl

set_option maxRecDepth 100000 in
theorem info_bool : (Try.prog.info? 4).map (fun i => (i.zero, i.size, i.bytes)) = some (some (.bool false), 1, 1) := by kernel_rfl
set_option maxRecDepth 100000 in
theorem made_bool (n j : Nat) (hj : j < n) : (madeCells (Value.bool false).cells n).getD j undef = .bool false := by
  have h := toList_madeCells_one (.bool false) n
  have h2 : (madeCells #[Value.bool false] n).toList[j]? = some (.bool false) := by rw [h]; simp [hj]
  show (madeCells #[Value.bool false] n).getD j undef = _
  rw [Array.getElem?_toList] at h2
  simp [h2]

/-- Seen among the first k. -/
def seenB (xs : List Int) (k j : Nat) : Value := .bool (hasI (xs.take k) (j : Int))

set_option maxRecDepth 100000 in
set_option maxHeartbeats 2000000 in
theorem rank_spec_n (w : World) (n : Nat) (a : Option Addr) (c : Nat) (xs : List Int) (hR : RdI w a xs) (HN : Hid (xs.length = n)) (h1 : inR (n : Int) 1 5 = true) :
    Calls Try.prog 69 #[.int .i64 n, .slice a n c] w fun e w' => e = .returned (.bool (rkOk n xs)) ∧ Ext w w' := by
  obtain ⟨m1, m5⟩ := inR_iff.1 h1
  obtain ⟨i0, hi, hz0, hz1, hz2⟩ := info_parts info_bool
  have hmk := fun W => run_make_rowN (P := Try.prog) 144 4 i0 _ Try.underlying144 hi hz0 .i64 .i64 n n (Nat.le_refl _) (by rw [hz2]; omega) (by omega) W
  rw [hz1] at hmk
  go_enter Try.func69, Try.ntmps69
  go_wp2_with (go_at_call 113; refine (in_spec _ _ _ _).mono ?_; rintro e w1 ⟨rfl, hw1⟩)
  have hw : Ext w w1 := (by repeat (first | exact Ext.refl _ | assumption | refine Ext.alloc ?_ _ | refine Ext.drew ?_ | refine Ext.trans ?_ (by assumption)))
  obtain ⟨W0, rfl⟩ : ∃ W0 : World, W0 = w1 := ⟨_, rfl⟩
  clear hmk
  go_loopw [7, 21] (fun _ i wr => ∃ k : Nat, k ≤ n ∧ i = .int .i64 k ∧ Hid (preOk n xs k) ∧ BlkF wr W0.heap.size n (seenB xs k) ∧ Ext W0 wr) (fun _ i _ => n - (intOf i).toNat)
  case atStart =>
    refine ⟨0, Nat.zero_le _, rfl, pre_zero _ _, ?_, (by repeat (first | exact Ext.refl _ | assumption | refine Ext.alloc ?_ _ | refine Ext.drew ?_ | refine Ext.trans ?_ (by assumption)))⟩
    have h := BlkF.new W0 (madeCells (Value.bool false).cells n) 4
    rw [size_madeCells] at h
    exact h.congr (fun o ho => by rw [made_bool n o ho]; simp [seenB, hasI])
  case round =>
    obtain ⟨k, hk, rfl, hpre, hB, hwr⟩ := hrel
    by_cases hlt : k < n
    · obtain ⟨x, hx⟩ := at_of_lt (xs := xs) (k := k) (by have := HN.out; omega)
      obtain ⟨b, off, rfl, c0⟩ := (hR.ext (hw.trans hwr)).at_ hx
      have HX := hide hx
      clear hx
      cases hin : inR x 0 ((n : Int) - 1)
      · go_wp2_with (go_at_call 113; refine (in_spec _ _ _ _).mono ?_; rintro e w1 ⟨rfl, hw1⟩)
        go_ret
        exact ⟨ret_bool (rk_false1 HX.out hin).symm, (by repeat (first | exact Ext.refl _ | assumption | refine Ext.alloc ?_ _ | refine Ext.drew ?_ | refine Ext.trans ?_ (by assumption)))⟩
      · obtain ⟨x0, x1⟩ := inR_iff.1 hin
        obtain ⟨j, rfl⟩ : ∃ j : Nat, x = (j : Int) := ⟨x.toNat, by omega⟩
        have hj : j < n := by omega
        cases hs : hasI (xs.take k) (j : Int)
        · go_wp2_with fail
          refine (in_spec _ _ _ _).mono ?_
          rintro e w1 ⟨rfl, hw1⟩
          have hB1 := hB.ext hw1
          have d0 := hB1.cell j hj
          simp only [seenB, hs] at d0
          have z0 := hB1.fr j
          go_wp2
          refine ⟨⟨k + 1, by omega, by go_num, pre_succ HX.out hpre.out hin (by simpa [hasI] using hs), (hB1.set j hj _).congr (fun o ho => ?_), Ext.setCell (Ext.trans hwr hw1) (Nat.le_refl _) _⟩, by simp [intOf]; omega⟩
          unfold seenB hasI
          rw [take_at HX.out]
          by_cases e : o = j
          · subst e; simp
          · rw [if_neg e]
            congr 1
            rw [Bool.eq_iff_iff, List.contains_iff_mem, List.contains_iff_mem, List.mem_append]
            simp
            omega
        · go_wp2_with fail
          refine (in_spec _ _ _ _).mono ?_
          rintro e w1 ⟨rfl, hw1⟩
          have hB1 := hB.ext hw1
          have d0 := hB1.cell j hj
          simp only [seenB, hs] at d0
          go_wp2
          go_ret
          exact ⟨ret_bool (rk_false2 HX.out (by simpa [hasI] using hs)).symm, (by repeat (first | exact Ext.refl _ | assumption | refine Ext.alloc ?_ _ | refine Ext.drew ?_ | refine Ext.trans ?_ (by assumption)))⟩
    · obtain rfl : k = n := by omega
      go_wp2
      go_ret
      refine ⟨ret_bool ?_, hw.trans hwr⟩
      have h2 := HN.out
      have h3 := hpre.out
      subst h2
      exact (rk_true h1 rfl h3).symm

set_option maxRecDepth 100000 in
set_option maxHeartbeats 2000000 in
theorem rank_spec (w : World) (m : Int) (a : Option Addr) (c : Nat) (xs : List Int) (hR : RdI w a xs)  :
    Calls Try.prog 69 #[.int .i64 m, .slice a xs.length c] w fun e w' => e = .returned (.bool (rkOk m xs)) ∧ Ext w w' := by
  cases h1 : inR m 1 5
  · go_enter Try.func69, Try.ntmps69
    go_wp2_with (go_at_call 113; refine (in_spec _ _ _ _).mono ?_; rintro e w1 ⟨rfl, hw1⟩)
    go_ret
    exact ⟨ret_bool (by simp [rkOk, h1]), hw1⟩
  by_cases hlen : (xs.length : Int) = m
  · subst hlen
    exact rank_spec_n w xs.length a c xs hR rfl h1
  · have hne : ((xs.length : Int) != m) = true := by simpa using hlen
    go_enter Try.func69, Try.ntmps69
    go_wp2_with (go_at_call 113; refine (in_spec _ _ _ _).mono ?_; rintro e w1 ⟨rfl, hw1⟩)
    go_ret
    exact ⟨ret_bool (by simp [rkOk, hlen]), hw1⟩

set_option maxRecDepth 100000 in
theorem RdI.take {w : World} {a : Option Addr} {xs : List Int} (h : RdI w a xs) (k : Nat) : RdI w a (xs.take k) := fun hne => by
  have hx : xs ≠ [] := by rintro rfl; simp at hne
  obtain ⟨b, off, ha, hc⟩ := h hx
  refine ⟨b, off, ha, fun j x hj => hc j x ?_⟩
  rw [List.getElem?_take] at hj
  split at hj
  · exact hj
  · cases hj
set_option maxRecDepth 100000 in
theorem RdI.rdB {w : World} {a : Option Addr} {xs : List Int} (h : RdI w a xs) (n c : Nat) (hn : xs.length = n) : RdB w w.heap.size (.slice a n c) xs := by
  subst hn
  refine ⟨a, c, rfl, h, fun b off ha hne => ?_⟩
  obtain ⟨b', off', ha', hc⟩ := h hne
  rw [ha] at ha'
  injection ha' with ha'
  injection ha' with hb _ _
  subst hb
  obtain ⟨x, hx⟩ := at_of_lt (List.length_pos_iff.2 hne)
  exact World.block_lt_of_cell? w _ (hc 0 x hx)

set_option maxRecDepth 100000 in
set_option maxHeartbeats 2000000 in
theorem rank_impl_n (w : World) (n : Nat) (a : Option Addr) (c : Nat) (xs : List Int) (hR : RdI w a xs) (HN : Hid (xs.length = n)) (hc : n ≤ c) (h1 : inR (n : Int) 1 5 = true) :
    Calls Try.prog 178 #[.int .i64 n, .slice a n c] w fun e w' => e = .returned (.bool (rkOk n xs)) ∧ Ext w w' := by
  obtain ⟨m1, m5⟩ := inR_iff.1 h1
  go_enter Try.func178, Try.ntmps178
  go_wp2_with (go_at_call 160; refine (in_impl _ _ _ _).mono ?_; rintro e w1 ⟨rfl, hw1⟩)
  obtain ⟨W0, rfl⟩ : ∃ W0 : World, W0 = w1 := ⟨_, rfl⟩
  go_loopw [5, 6, 18] (fun _ _ i wr => ∃ k : Nat, k ≤ n ∧ i = .int .i64 k ∧ Hid (preOk n xs k) ∧ Ext W0 wr) (fun _ _ i _ => n - (intOf i).toNat)
  case atStart => exact ⟨0, Nat.zero_le _, rfl, pre_zero _ _, Ext.refl _⟩
  case round =>
    obtain ⟨k, hk, rfl, hpre, hwr⟩ := hrel
    by_cases hlt : k < n
    · obtain ⟨x, hx⟩ := at_of_lt (xs := xs) (k := k) (by have := HN.out; omega)
      obtain ⟨b, off, rfl, c0⟩ := (hR.ext (hw1.trans hwr)).at_ hx
      have hRB := hide (fun (w' : World) (hw' : Ext w w') => ((hR.ext hw').take k).rdB k c (by rw [List.length_take, HN.out]; omega))
      have HX := hide hx
      clear hx
      have htl := hide (show (xs.take k).length ≤ 2000000 by rw [List.length_take]; omega)
      cases hin : inR x 0 ((n : Int) - 1)
      · go_wp2_with (go_at_call 160; refine (in_impl _ _ _ _).mono ?_; rintro e w1 ⟨rfl, hw1⟩)
        go_ret
        exact ⟨ret_bool (rk_false1 HX.out hin).symm, (by repeat (first | exact Ext.refl _ | assumption | refine Ext.alloc ?_ _ | refine Ext.drew ?_ | refine Ext.trans ?_ (by assumption)))⟩
      · cases hs : hasI (xs.take k) x
        · go_wp2_with (first | (go_at_call 160; refine (in_impl _ _ _ _).mono ?_; rintro e w1 ⟨rfl, hw1⟩; have c0 := Ext.keep (w' := w1) (by repeat (first | exact Ext.refl _ | assumption | refine Ext.alloc ?_ _ | refine Ext.drew ?_ | refine Ext.trans ?_ (by assumption))) c0) | (go_at_call 151; refine (containsI _ _ _ _ _ (hRB.out _ (by repeat (first | exact Ext.refl _ | assumption | refine Ext.alloc ?_ _ | refine Ext.drew ?_ | refine Ext.trans ?_ (by assumption)))) htl.out).mono ?_; rintro e w1 ⟨rfl, hw1⟩))
          exact ⟨⟨k + 1, by omega, by go_num, pre_succ HX.out hpre.out hin (by simpa [hasI] using hs), (by repeat (first | exact Ext.refl _ | assumption | refine Ext.alloc ?_ _ | refine Ext.drew ?_ | refine Ext.trans ?_ (by assumption)))⟩, by simp [intOf]; omega⟩
        · go_wp2_with (first | (go_at_call 160; refine (in_impl _ _ _ _).mono ?_; rintro e w1 ⟨rfl, hw1⟩; have c0 := Ext.keep (w' := w1) (by repeat (first | exact Ext.refl _ | assumption | refine Ext.alloc ?_ _ | refine Ext.drew ?_ | refine Ext.trans ?_ (by assumption))) c0) | (go_at_call 151; refine (containsI _ _ _ _ _ (hRB.out _ (by repeat (first | exact Ext.refl _ | assumption | refine Ext.alloc ?_ _ | refine Ext.drew ?_ | refine Ext.trans ?_ (by assumption)))) htl.out).mono ?_; rintro e w1 ⟨rfl, hw1⟩))
          go_ret
          exact ⟨ret_bool (rk_false2 HX.out (by simpa [hasI] using hs)).symm, (by repeat (first | exact Ext.refl _ | assumption | refine Ext.alloc ?_ _ | refine Ext.drew ?_ | refine Ext.trans ?_ (by assumption)))⟩
    · obtain rfl : k = n := by omega
      go_wp2
      go_ret
      refine ⟨ret_bool ?_, (by repeat (first | exact Ext.refl _ | assumption | refine Ext.alloc ?_ _ | refine Ext.drew ?_ | refine Ext.trans ?_ (by assumption)))⟩
      have h3 := hpre.out
      rw [← HN.out] at h3 h1 ⊢
      exact (rk_true h1 rfl h3).symm

set_option maxRecDepth 100000 in
set_option maxHeartbeats 2000000 in
theorem rank_impl (w : World) (m : Int) (a : Option Addr) (c : Nat) (xs : List Int) (hR : RdI w a xs) (hc : xs.length ≤ c) :
    Calls Try.prog 178 #[.int .i64 m, .slice a xs.length c] w fun e w' => e = .returned (.bool (rkOk m xs)) ∧ Ext w w' := by
  cases h1 : inR m 1 5
  · go_enter Try.func178, Try.ntmps178
    go_wp2_with (go_at_call 160; refine (in_impl _ _ _ _).mono ?_; rintro e w1 ⟨rfl, hw1⟩)
    go_ret
    exact ⟨ret_bool (by simp [rkOk, h1]), hw1⟩
  by_cases hlen : (xs.length : Int) = m
  · subst hlen
    exact rank_impl_n w xs.length a c xs hR rfl hc h1
  · have hne : ((xs.length : Int) != m) = true := by simpa using hlen
    go_enter Try.func178, Try.ntmps178
    go_wp2_with (go_at_call 160; refine (in_impl _ _ _ _).mono ?_; rintro e w1 ⟨rfl, hw1⟩)
    go_ret
    exact ⟨ret_bool (by simp [rkOk, hlen]), hw1⟩

end Go.Proofs.Ytacmabdeocmheaa
