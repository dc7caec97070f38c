/- The range tests of both packages. The library's searches over integers. Which rankings are valid: both packages' tests answer as one plain function. Profiles in memory: a slice of votes reads as a list of rankings with counts. What the statements' reading of profiles says of memory. -/
import Derived.Test.YthiojkpoeejkaaaRows
import Derived.Test.YthiojkpoeejkaaaCa1
namespace Go.Proofs.Ythiojkpoeejkaaa
open Go.RowKit

set_option maxRecDepth 100000 in
theorem in_spec (n lo hi : Int) (w : World) :
    Calls Try.prog 131 #[.int .i64 n, .int .i64 lo, .int .i64 hi] w fun e w' => e = .returned (.bool (inR n lo hi)) ∧ Ext w w' := by
  go_enter Try.func131, Try.ntmps131
  by_cases h1 : lo ≤ n <;> by_cases h2 : n ≤ hi
  all_goals
    go_wp2
    go_ret
    exact ⟨by simp [inR, h1, h2], Ext.refl _⟩

set_option maxRecDepth 100000 in
theorem in_impl (n lo hi : Int) (w : World) :
    Calls Try.prog 94 #[.int .i64 n, .int .i64 lo, .int .i64 hi] w fun e w' => e = .returned (.bool (inR n lo hi)) ∧ Ext w w' := by
  go_enter Try.func94, Try.ntmps94
  by_cases h1 : lo ≤ n <;> by_cases h2 : n ≤ hi
  all_goals
    go_wp2
    go_ret
    exact ⟨by simp [inR, h1, h2], Ext.refl _⟩

/-- The place of the first element with a property, or -1. -/
def findI {α : Type} (p : α → Bool) (xs : List α) : Int := match xs.findIdx? p with | some i => (i : Int) | none => -1

set_option maxRecDepth 100000 in
theorem findI_none {α : Type} {p : α → Bool} {xs : List α} (h : xs.all (fun x => !p x) = true) : findI p xs = -1 := by
  have : xs.findIdx? p = none := by rw [List.findIdx?_eq_none_iff]; intro x hx; have := List.all_eq_true.1 h x hx; simpa using this
  simp [findI, this]

set_option maxRecDepth 100000 in
theorem findI_some {α : Type} {p : α → Bool} {xs : List α} {k : Nat} {x : α} (hx : xs[k]? = some x) (h : (xs.take k).all (fun x => !p x) = true) (hp : p x = true) : findI p xs = (k : Int) := by
  have : xs.findIdx? p = some k := by
    rw [List.findIdx?_eq_some_iff_getElem]
    have hk := lt_of_at hx
    refine ⟨hk, ?_, fun j hj => ?_⟩
    · rw [List.getElem?_eq_getElem hk] at hx; simp at hx; rw [hx]; exact hp
    · have h1 := List.all_eq_true.1 h xs[j] (by rw [List.mem_take_iff_getElem]; exact ⟨j, by omega, rfl⟩)
      simpa using h1
  simp [findI, this]

set_option maxRecDepth 100000 in
theorem findI_nonneg {α : Type} (p : α → Bool) (xs : List α) : decide (0 ≤ findI p xs) = xs.any p := by
  unfold findI
  cases h : xs.findIdx? p with
  | none =>
    rw [List.findIdx?_eq_none_iff] at h
    have : xs.any p = false := by rw [List.any_eq_false]; intro x hx; simp [h x hx]
    simp [this]
  | some i =>
    rw [List.findIdx?_eq_some_iff_getElem] at h
    obtain ⟨hk, hp, _⟩ := h
    have : xs.any p = true := List.any_eq_true.2 ⟨xs[i], List.getElem_mem hk, hp⟩
    simp [this]

set_option maxRecDepth 100000 in
set_option maxHeartbeats 1000000 in
theorem indexI (w : World) (a : Option Addr) (c : Nat) (xs : List Int) (x : Int) (hR : RdI w a xs) (hl : xs.length ≤ 2000000) :
    Calls Try.prog 181 #[.slice a xs.length c, .int .i64 x] w fun e w' => e = .returned (.int .i64 (findI (fun y => x == y) xs)) ∧ Ext w w' := by
  go_enter Try.func181, Try.ntmps181
  go_wp2_with fail
  go_loopw [5, 8] (fun _ i wr => ∃ k : Nat, k ≤ xs.length ∧ i = .int .i64 k ∧ (xs.take k).all (fun y => !(x == y)) = true ∧ Ext w wr) (fun _ i _ => xs.length - (intOf i).toNat)
  case atStart => exact ⟨0, Nat.zero_le _, rfl, rfl, Ext.refl _⟩
  case round =>
    obtain ⟨k, hk, rfl, hall, hwr⟩ := hrel
    have HA := hide hall
    clear hall
    by_cases hlt : k < xs.length
    · obtain ⟨y, hy⟩ := at_of_lt hlt
      obtain ⟨b, off, rfl, c0⟩ := (hR.ext hwr).at_ hy
      have HY := hide hy
      clear hy
      cases hp : (x == y)
      all_goals go_wp2
      · exact ⟨⟨k + 1, by omega, by go_num, (all_take HY.out HA.out).trans (by simp [hp]), hwr⟩, by simp [intOf]; omega⟩
      · go_ret
        exact ⟨ret_int (findI_some HY.out HA.out hp).symm, hwr⟩
    · go_wp2
      go_ret
      exact ⟨ret_int (findI_none (all_whole (by omega) HA.out)).symm, hwr⟩

def hasI (xs : List Int) (x : Int) : Bool := xs.contains x

set_option maxRecDepth 100000 in
set_option maxHeartbeats 1000000 in
theorem containsI (w : World) (B : Nat) (v : Value) (xs : List Int) (x : Int) (hV : RdB w B v xs) (hl : xs.length ≤ 2000000) :
    Calls Try.prog 99 #[v, .int .i64 x] w fun e w' => e = .returned (.bool (hasI xs x)) ∧ Ext w w' := by
  obtain ⟨a, c, rfl, hR, _⟩ := hV
  go_enter Try.func99, Try.ntmps99
  go_wp2_with (go_at_call 181; refine (indexI _ _ _ _ _ hR hl).mono ?_; rintro e w1 ⟨rfl, hw1⟩)
  go_ret
  refine ⟨ret_bool ?_, hw1⟩
  have h := findI_nonneg (fun y => x == y) xs
  have e : xs.any (fun y => x == y) = xs.contains x := by
    rw [Bool.eq_iff_iff, List.any_eq_true, List.contains_iff_mem]
    constructor
    · rintro ⟨y, hy, he⟩
      have : x = y := by simpa using he
      subst this; exact hy
    · intro hx; exact ⟨x, hx, by simp⟩
  unfold hasI
  rw [← e, ← h]

def rkOk (m : Int) (xs : List Int) : Bool := inR m 1 5 && (decide ((xs.length : Int) = m) && (xs.all (fun x => inR x 0 (m - 1)) && decide xs.Nodup))
def preOk (m : Int) (xs : List Int) (k : Nat) : Prop := (xs.take k).all (fun x => inR x 0 (m - 1)) = true ∧ (xs.take k).Nodup
set_option maxRecDepth 100000 in
theorem pre_zero (m : Int) (xs : List Int) : preOk m xs 0 := by simp [preOk]
set_option maxRecDepth 100000 in
theorem pre_succ {m : Int} {xs : List Int} {k : Nat} {x : Int} (hx : xs[k]? = some x) (h : preOk m xs k) (h1 : inR x 0 (m - 1) = true) (h2 : x ∉ xs.take k) : preOk m xs (k + 1) := by
  refine ⟨(all_take hx h.1).trans h1, ?_⟩
  rw [take_at hx, List.nodup_append]
  refine ⟨h.2, by simp, fun a ha b hb => ?_⟩
  simp at hb
  subst hb
  rintro rfl
  exact h2 ha
set_option maxRecDepth 100000 in
theorem rk_false1 {m : Int} {xs : List Int} {k : Nat} {x : Int} (hx : xs[k]? = some x) (h1 : inR x 0 (m - 1) = false) : rkOk m xs = false := by
  have : xs.all (fun x => inR x 0 (m - 1)) = false := all_false hx h1
  simp [rkOk, this]
set_option maxRecDepth 100000 in
theorem rk_false2 {m : Int} {xs : List Int} {k : Nat} {x : Int} (hx : xs[k]? = some x) (h1 : x ∈ xs.take k) : rkOk m xs = false := by
  have : ¬ xs.Nodup := fun hn => by
    have h2 : (xs.take (k + 1)).Nodup := hn.sublist (List.take_sublist _ _)
    rw [take_at hx, List.nodup_append] at h2
    exact h2.2.2 x h1 x (by simp) rfl
  simp [rkOk, this]
set_option maxRecDepth 100000 in
theorem rk_true {m : Int} {xs : List Int} (h1 : inR m 1 5 = true) (h2 : (xs.length : Int) = m) (h : preOk m xs xs.length) : rkOk m xs = true := by
  unfold preOk at h
  rw [List.take_length] at h
  simp only [rkOk, h1, h.1, decide_eq_true h2, decide_eq_true h.2]; rfl

set_option maxRecDepth 100000 in
theorem info_bool : (Try.prog.info? 4).map (fun i => (i.zero, i.size, i.bytes)) = some (some (.bool false), 1, 1) := by kernel_rfl
set_option maxRecDepth 100000 in
theorem made_bool (n j : Nat) (hj : j < n) : (madeCells (Value.bool false).cells n).getD j undef = .bool false := by
  have h := toList_madeCells_one (.bool false) n
  have h2 : (madeCells #[Value.bool false] n).toList[j]? = some (.bool false) := by rw [h]; simp [hj]
  show (madeCells #[Value.bool false] n).getD j undef = _
  rw [Array.getElem?_toList] at h2
  simp [h2]

/-- Seen among the first k. -/
def seenB (xs : List Int) (k j : Nat) : Value := .bool (hasI (xs.take k) (j : Int))

set_option maxRecDepth 100000 in
set_option maxHeartbeats 2000000 in
theorem rank_spec_n (w : World) (n : Nat) (a : Option Addr) (c : Nat) (xs : List Int) (hR : RdI w a xs) (HN : Hid (xs.length = n)) (h1 : inR (n : Int) 1 5 = true) :
    Calls Try.prog 41 #[.int .i64 n, .slice a n c] w fun e w' => e = .returned (.bool (rkOk n xs)) ∧ Ext w w' := by
  obtain ⟨m1, m5⟩ := inR_iff.1 h1
  obtain ⟨i0, hi, hz0, hz1, hz2⟩ := info_parts info_bool
  have hmk := fun W => run_make_rowN (P := Try.prog) 107 4 i0 _ Try.underlying107 hi hz0 .i64 .i64 n n (Nat.le_refl _) (by rw [hz2]; omega) (by omega) W
  rw [hz1] at hmk
  go_enter Try.func41, Try.ntmps41
  go_wp2_with (go_at_call 131; refine (in_spec _ _ _ _).mono ?_; rintro e w1 ⟨rfl, hw1⟩)
  have hw : Ext w w1 := (by repeat (first | exact Ext.refl _ | assumption | refine Ext.alloc ?_ _ | refine Ext.drew ?_ | refine Ext.trans ?_ (by assumption)))
  obtain ⟨W0, rfl⟩ : ∃ W0 : World, W0 = w1 := ⟨_, rfl⟩
  clear hmk
  go_loopw [7, 21] (fun _ i wr => ∃ k : Nat, k ≤ n ∧ i = .int .i64 k ∧ Hid (preOk n xs k) ∧ BlkF wr W0.heap.size n (seenB xs k) ∧ Ext W0 wr) (fun _ i _ => n - (intOf i).toNat)
  case atStart =>
    refine ⟨0, Nat.zero_le _, rfl, pre_zero _ _, ?_, (by repeat (first | exact Ext.refl _ | assumption | refine Ext.alloc ?_ _ | refine Ext.drew ?_ | refine Ext.trans ?_ (by assumption)))⟩
    have h := BlkF.new W0 (madeCells (Value.bool false).cells n) 4
    rw [size_madeCells] at h
    exact h.congr (fun o ho => by rw [made_bool n o ho]; simp [seenB, hasI])
  case round =>
    obtain ⟨k, hk, rfl, hpre, hB, hwr⟩ := hrel
    by_cases hlt : k < n
    · obtain ⟨x, hx⟩ := at_of_lt (xs := xs) (k := k) (by have := HN.out; omega)
      obtain ⟨b, off, rfl, c0⟩ := (hR.ext (hw.trans hwr)).at_ hx
      have HX := hide hx
      clear hx
      cases hin : inR x 0 ((n : Int) - 1)
      · go_wp2_with (go_at_call 131; refine (in_spec _ _ _ _).mono ?_; rintro e w1 ⟨rfl, hw1⟩)
        go_ret
        exact ⟨ret_bool (rk_false1 HX.out hin).symm, (by repeat (first | exact Ext.refl _ | assumption | refine Ext.alloc ?_ _ | refine Ext.drew ?_ | refine Ext.trans ?_ (by assumption)))⟩
      · obtain ⟨x0, x1⟩ := inR_iff.1 hin
        obtain ⟨j, rfl⟩ : ∃ j : Nat, x = (j : Int) := ⟨x.toNat, by omega⟩
        have hj : j < n := by omega
        cases hs : hasI (xs.take k) (j : Int)
        · go_wp2_with fail
          refine (in_spec _ _ _ _).mono ?_
          rintro e w1 ⟨rfl, hw1⟩
          have hB1 := hB.ext hw1
          have d0 := hB1.cell j hj
          simp only [seenB, hs] at d0
          have z0 := hB1.fr j
          go_wp2
          refine ⟨⟨k + 1, by omega, by go_num, pre_succ HX.out hpre.out hin (by simpa [hasI] using hs), (hB1.set j hj _).congr (fun o ho => ?_), Ext.setCell (Ext.trans hwr hw1) (Nat.le_refl _) _⟩, by simp [intOf]; omega⟩
          unfold seenB hasI
          rw [take_at HX.out]
          by_cases e : o = j
          · subst e; simp
          · rw [if_neg e]
            congr 1
            rw [Bool.eq_iff_iff, List.contains_iff_mem, List.contains_iff_mem, List.mem_append]
            simp
            omega
        · go_wp2_with fail
          refine (in_spec _ _ _ _).mono ?_
          rintro e w1 ⟨rfl, hw1⟩
          have hB1 := hB.ext hw1
          have d0 := hB1.cell j hj
          simp only [seenB, hs] at d0
          go_wp2
          go_ret
          exact ⟨ret_bool (rk_false2 HX.out (by simpa [hasI] using hs)).symm, (by repeat (first | exact Ext.refl _ | assumption | refine Ext.alloc ?_ _ | refine Ext.drew ?_ | refine Ext.trans ?_ (by assumption)))⟩
    · obtain rfl : k = n := by omega
      go_wp2
      go_ret
      refine ⟨ret_bool ?_, hw.trans hwr⟩
      have h2 := HN.out
      have h3 := hpre.out
      subst h2
      exact (rk_true h1 rfl h3).symm

set_option maxRecDepth 100000 in
set_option maxHeartbeats 2000000 in
theorem rank_spec (w : World) (m : Int) (a : Option Addr) (c : Nat) (xs : List Int) (hR : RdI w a xs)  :
    Calls Try.prog 41 #[.int .i64 m, .slice a xs.length c] w fun e w' => e = .returned (.bool (rkOk m xs)) ∧ Ext w w' := by
  cases h1 : inR m 1 5
  · go_enter Try.func41, Try.ntmps41
    go_wp2_with (go_at_call 131; refine (in_spec _ _ _ _).mono ?_; rintro e w1 ⟨rfl, hw1⟩)
    go_ret
    exact ⟨ret_bool (by simp [rkOk, h1]), hw1⟩
  by_cases hlen : (xs.length : Int) = m
  · subst hlen
    exact rank_spec_n w xs.length a c xs hR rfl h1
  · have hne : ((xs.length : Int) != m) = true := by simpa using hlen
    go_enter Try.func41, Try.ntmps41
    go_wp2_with (go_at_call 131; refine (in_spec _ _ _ _).mono ?_; rintro e w1 ⟨rfl, hw1⟩)
    go_ret
    exact ⟨ret_bool (by simp [rkOk, hlen]), hw1⟩

set_option maxRecDepth 100000 in
theorem RdI.take {w : World} {a : Option Addr} {xs : List Int} (h : RdI w a xs) (k : Nat) : RdI w a (xs.take k) := fun hne => by
  have hx : xs ≠ [] := by rintro rfl; simp at hne
  obtain ⟨b, off, ha, hc⟩ := h hx
  refine ⟨b, off, ha, fun j x hj => hc j x ?_⟩
  rw [List.getElem?_take] at hj
  split at hj
  · exact hj
  · cases hj
set_option maxRecDepth 100000 in
theorem RdI.rdB {w : World} {a : Option Addr} {xs : List Int} (h : RdI w a xs) (n c : Nat) (hn : xs.length = n) : RdB w w.heap.size (.slice a n c) xs := by
  subst hn
  refine ⟨a, c, rfl, h, fun b off ha hne => ?_⟩
  obtain ⟨b', off', ha', hc⟩ := h hne
  rw [ha] at ha'
  injection ha' with ha'
  injection ha' with hb _ _
  subst hb
  obtain ⟨x, hx⟩ := at_of_lt (List.length_pos_iff.2 hne)
  exact World.block_lt_of_cell? w _ (hc 0 x hx)

set_option maxRecDepth 100000 in
set_option maxHeartbeats 2000000 in
theorem rank_impl_n (w : World) (n : Nat) (a : Option Addr) (c : Nat) (xs : List Int) (hR : RdI w a xs) (HN : Hid (xs.length = n)) (hc : n ≤ c) (h1 : inR (n : Int) 1 5 = true) :
    Calls Try.prog 116 #[.int .i64 n, .slice a n c] w fun e w' => e = .returned (.bool (rkOk n xs)) ∧ Ext w w' := by
  obtain ⟨m1, m5⟩ := inR_iff.1 h1
  go_enter Try.func116, Try.ntmps116
  go_wp2_with (go_at_call 94; refine (in_impl _ _ _ _).mono ?_; rintro e w1 ⟨rfl, hw1⟩)
  obtain ⟨W0, rfl⟩ : ∃ W0 : World, W0 = w1 := ⟨_, rfl⟩
  go_loopw [5, 6, 18] (fun _ _ i wr => ∃ k : Nat, k ≤ n ∧ i = .int .i64 k ∧ Hid (preOk n xs k) ∧ Ext W0 wr) (fun _ _ i _ => n - (intOf i).toNat)
  case atStart => exact ⟨0, Nat.zero_le _, rfl, pre_zero _ _, Ext.refl _⟩
  case round =>
    obtain ⟨k, hk, rfl, hpre, hwr⟩ := hrel
    by_cases hlt : k < n
    · obtain ⟨x, hx⟩ := at_of_lt (xs := xs) (k := k) (by have := HN.out; omega)
      obtain ⟨b, off, rfl, c0⟩ := (hR.ext (hw1.trans hwr)).at_ hx
      have hRB := hide (fun (w' : World) (hw' : Ext w w') => ((hR.ext hw').take k).rdB k c (by rw [List.length_take, HN.out]; omega))
      have HX := hide hx
      clear hx
      have htl := hide (show (xs.take k).length ≤ 2000000 by rw [List.length_take]; omega)
      cases hin : inR x 0 ((n : Int) - 1)
      · go_wp2_with (go_at_call 94; refine (in_impl _ _ _ _).mono ?_; rintro e w1 ⟨rfl, hw1⟩)
        go_ret
        exact ⟨ret_bool (rk_false1 HX.out hin).symm, (by repeat (first | exact Ext.refl _ | assumption | refine Ext.alloc ?_ _ | refine Ext.drew ?_ | refine Ext.trans ?_ (by assumption)))⟩
      · cases hs : hasI (xs.take k) x
        · go_wp2_with (first | (go_at_call 94; refine (in_impl _ _ _ _).mono ?_; rintro e w1 ⟨rfl, hw1⟩; have c0 := Ext.keep (w' := w1) (by repeat (first | exact Ext.refl _ | assumption | refine Ext.alloc ?_ _ | refine Ext.drew ?_ | refine Ext.trans ?_ (by assumption))) c0) | (go_at_call 99; refine (containsI _ _ _ _ _ (hRB.out _ (by repeat (first | exact Ext.refl _ | assumption | refine Ext.alloc ?_ _ | refine Ext.drew ?_ | refine Ext.trans ?_ (by assumption)))) htl.out).mono ?_; rintro e w1 ⟨rfl, hw1⟩))
          exact ⟨⟨k + 1, by omega, by go_num, pre_succ HX.out hpre.out hin (by simpa [hasI] using hs), (by repeat (first | exact Ext.refl _ | assumption | refine Ext.alloc ?_ _ | refine Ext.drew ?_ | refine Ext.trans ?_ (by assumption)))⟩, by simp [intOf]; omega⟩
        · go_wp2_with (first | (go_at_call 94; refine (in_impl _ _ _ _).mono ?_; rintro e w1 ⟨rfl, hw1⟩; have c0 := Ext.keep (w' := w1) (by repeat (first | exact Ext.refl _ | assumption | refine Ext.alloc ?_ _ | refine Ext.drew ?_ | refine Ext.trans ?_ (by assumption))) c0) | (go_at_call 99; refine (containsI _ _ _ _ _ (hRB.out _ (by repeat (first | exact Ext.refl _ | assumption | refine Ext.alloc ?_ _ | refine Ext.drew ?_ | refine Ext.trans ?_ (by assumption)))) htl.out).mono ?_; rintro e w1 ⟨rfl, hw1⟩))
          go_ret
          exact ⟨ret_bool (rk_false2 HX.out (by simpa [hasI] using hs)).symm, (by repeat (first | exact Ext.refl _ | assumption | refine Ext.alloc ?_ _ | refine Ext.drew ?_ | refine Ext.trans ?_ (by assumption)))⟩
    · obtain rfl : k = n := by omega
      go_wp2
      go_ret
      refine ⟨ret_bool ?_, (by repeat (first | exact Ext.refl _ | assumption | refine Ext.alloc ?_ _ | refine Ext.drew ?_ | refine Ext.trans ?_ (by assumption)))⟩
      have h3 := hpre.out
      rw [← HN.out] at h3 h1 ⊢
      exact (rk_true h1 rfl h3).symm

set_option maxRecDepth 100000 in
set_option maxHeartbeats 2000000 in
theorem rank_impl (w : World) (m : Int) (a : Option Addr) (c : Nat) (xs : List Int) (hR : RdI w a xs) (hc : xs.length ≤ c) :
    Calls Try.prog 116 #[.int .i64 m, .slice a xs.length c] w fun e w' => e = .returned (.bool (rkOk m xs)) ∧ Ext w w' := by
  cases h1 : inR m 1 5
  · go_enter Try.func116, Try.ntmps116
    go_wp2_with (go_at_call 94; refine (in_impl _ _ _ _).mono ?_; rintro e w1 ⟨rfl, hw1⟩)
    go_ret
    exact ⟨ret_bool (by simp [rkOk, h1]), hw1⟩
  by_cases hlen : (xs.length : Int) = m
  · subst hlen
    exact rank_impl_n w xs.length a c xs hR rfl hc h1
  · have hne : ((xs.length : Int) != m) = true := by simpa using hlen
    go_enter Try.func116, Try.ntmps116
    go_wp2_with (go_at_call 94; refine (in_impl _ _ _ _).mono ?_; rintro e w1 ⟨rfl, hw1⟩)
    go_ret
    exact ⟨ret_bool (by simp [rkOk, hlen]), hw1⟩

abbrev Vt := List Int × Int
/-- The slice address a reads as the votes vs. -/
def RdV (w : World) (a : Option Addr) (vs : List Vt) : Prop :=
  vs ≠ [] → ∃ b off, a = some ⟨b, off, none⟩ ∧ ∀ (j : Nat) (x : Vt), vs[j]? = some x → ∃ a' c', w.cell? ⟨b, off + j * 2, none⟩ = some (.slice a' x.1.length c') ∧
    w.cell? ⟨b, off + j * 2 + 1, none⟩ = some (.int .i64 x.2) ∧ x.1.length ≤ c' ∧ RdI w a' x.1
set_option maxRecDepth 100000 in
theorem RdV.ext {w w' : World} {a : Option Addr} {vs : List Vt} (h : RdV w a vs) (hw : Ext w w') : RdV w' a vs := fun hne => by
  obtain ⟨b, off, ha, hc⟩ := h hne
  refine ⟨b, off, ha, fun j x hx => ?_⟩
  obtain ⟨a', c', h0, h1, h2, h3⟩ := hc j x hx
  exact ⟨a', c', hw.keep h0, hw.keep h1, h2, h3.ext hw⟩
set_option maxRecDepth 100000 in
theorem RdV.nil (w : World) (a : Option Addr) : RdV w a [] := fun h => absurd rfl h
set_option maxRecDepth 100000 in
theorem RdV.at_ {w : World} {a : Option Addr} {vs : List Vt} (h : RdV w a vs) {k : Nat} {x : Vt} (hx : vs[k]? = some x) :
    ∃ b off a' c', a = some ⟨b, off, none⟩ ∧ w.cell? ⟨b, off + k * 2, none⟩ = some (.slice a' x.1.length c') ∧ w.cell? ⟨b, off + k * 2 + 1, none⟩ = some (.int .i64 x.2) ∧ x.1.length ≤ c' ∧ RdI w a' x.1 := by
  obtain ⟨b, off, ha, hc⟩ := h (ne_of_at hx)
  obtain ⟨a', c', h⟩ := hc k x hx
  exact ⟨b, off, a', c', ha, h⟩

def vtOk (sz : Int) (x : Vt) : Bool := rkOk sz x.1 && inR x.2 1 1000
def profOk (sz : Int) (vs : List Vt) : Bool := inR sz 1 5 && (decide (vs.length ≤ 24) && vs.all (vtOk sz))

set_option maxRecDepth 100000 in
set_option maxHeartbeats 1000000 in
theorem indexFuncV (K : Nat) (fst cap : Array Value) (p : Vt → Bool) (w : World) (a : Option Addr) (c : Nat) (vs : List Vt) (hR : RdV w a vs) (hl : vs.length ≤ 2000000) (hK : Enters Try.prog K)
    (hf : ∀ (x : Vt) (a' : Option Addr) (c' : Nat) (w' : World), x ∈ vs → Ext w w' → RdI w' a' x.1 → x.1.length ≤ c' → Calls Try.prog K (fst.push (.agg #[.slice a' x.1.length c', .int .i64 x.2]) ++ cap) w' fun e w'' => e = .returned (.bool (p x)) ∧ Ext w' w'') :
    Calls Try.prog 193 #[.slice a vs.length c, .func (.func K) fst cap] w fun e w' => e = .returned (.int .i64 (findI p vs)) ∧ Ext w w' := by
  unfold Enters at hK
  have HF := hide hf
  clear hf
  go_enter Try.func193, Try.ntmps193
  go_wp2_with fail
  go_loopw [5, 8] (fun _ i wr => ∃ k : Nat, k ≤ vs.length ∧ i = .int .i64 k ∧ Hid ((vs.take k).all (fun x => !p x) = true) ∧ Ext w wr) (fun _ i _ => vs.length - (intOf i).toNat)
  case atStart => exact ⟨0, Nat.zero_le _, rfl, rfl, Ext.refl _⟩
  case round =>
    obtain ⟨k, hk, rfl, hall, hwr⟩ := hrel
    by_cases hlt : k < vs.length
    · obtain ⟨x, hx⟩ := at_of_lt hlt
      obtain ⟨b, off, a', c', rfl, c0, c1, hc', hRx⟩ := (hR.ext hwr).at_ hx
      have HX := hide hx
      clear hx
      cases hp : p x
      all_goals
        go_wp2_with fail
        refine (HF.out x a' c' wr (List.mem_of_getElem? HX.out) hwr hRx hc').mono ?_
        rintro e w1 ⟨rfl, hw1⟩
        go_wp2
      · exact ⟨⟨k + 1, by omega, by go_num, (all_take HX.out hall.out).trans (by simp [hp]), hwr.trans hw1⟩, by simp [intOf]; omega⟩
      · go_ret
        exact ⟨ret_int (findI_some HX.out hall.out hp).symm, hwr.trans hw1⟩
    · go_wp2
      go_ret
      exact ⟨ret_int (findI_none (all_whole (by omega) hall.out)).symm, hwr⟩

set_option maxRecDepth 100000 in
set_option maxHeartbeats 1000000 in
theorem containsFuncV (K : Nat) (fst cap : Array Value) (p : Vt → Bool) (w : World) (a : Option Addr) (c : Nat) (vs : List Vt) (hR : RdV w a vs) (hl : vs.length ≤ 2000000) (hK : Enters Try.prog K)
    (hf : ∀ (x : Vt) (a' : Option Addr) (c' : Nat) (w' : World), x ∈ vs → Ext w w' → RdI w' a' x.1 → x.1.length ≤ c' → Calls Try.prog K (fst.push (.agg #[.slice a' x.1.length c', .int .i64 x.2]) ++ cap) w' fun e w'' => e = .returned (.bool (p x)) ∧ Ext w' w'') :
    Calls Try.prog 124 #[.slice a vs.length c, .func (.func K) fst cap] w fun e w' => e = .returned (.bool (vs.any p)) ∧ Ext w w' := by
  have H := hide (indexFuncV K fst cap p w a c vs hR hl hK hf)
  clear hf
  go_enter Try.func124, Try.ntmps124
  go_wp2_with fail
  refine H.out.mono ?_
  rintro e w1 ⟨rfl, hw1⟩
  go_wp2
  go_ret
  exact ⟨ret_bool (findI_nonneg p vs), hw1⟩

set_option maxRecDepth 100000 in
set_option maxHeartbeats 1000000 in
theorem profOne_impl (w : World) (sz : Int) (b off : Nat) (a' : Option Addr) (c' : Nat) (x : Vt) (hRx : RdI w a' x.1) (hc' : x.1.length ≤ c')
    (h0 : w.cell? ⟨b, off, none⟩ = some (.int .i64 sz)) :
    Calls Try.prog 125 #[.agg #[.slice a' x.1.length c', .int .i64 x.2], .pointer (some ⟨b, off, none⟩)] w fun e w' => e = .returned (.bool (!vtOk sz x)) ∧ Ext w w' := by
  have e0 := new0 w (.slice a' x.1.length c') [.int .i64 x.2] 97
  have e1 := new1 w (.slice a' x.1.length c') (.int .i64 x.2) [] 97
  cases g1 : rkOk sz x.1
  all_goals
    go_enter Try.func125, Try.ntmps125
    go_wp2_with (first | (go_at_call 116; refine (rank_impl _ _ _ _ _ (hRx.ext (by repeat (first | exact Ext.refl _ | assumption | refine Ext.alloc ?_ _ | refine Ext.drew ?_ | refine Ext.trans ?_ (by assumption)))) hc').mono ?_; rintro e w1 ⟨rfl, hw1⟩; have e0 := Ext.keep (w' := w1) (by repeat (first | exact Ext.refl _ | assumption | refine Ext.alloc ?_ _ | refine Ext.drew ?_ | refine Ext.trans ?_ (by assumption))) e0; have e1 := Ext.keep (w' := w1) (by repeat (first | exact Ext.refl _ | assumption | refine Ext.alloc ?_ _ | refine Ext.drew ?_ | refine Ext.trans ?_ (by assumption))) e1) | (go_at_call 94; refine (in_impl _ _ _ _).mono ?_; rintro e w1 ⟨rfl, hw1⟩))
    go_ret
  · exact ⟨ret_bool (by simp [vtOk, g1]), (by repeat (first | exact Ext.refl _ | assumption | refine Ext.alloc ?_ _ | refine Ext.drew ?_ | refine Ext.trans ?_ (by assumption)))⟩
  · exact ⟨ret_bool (by simp [vtOk, g1]), (by repeat (first | exact Ext.refl _ | assumption | refine Ext.alloc ?_ _ | refine Ext.drew ?_ | refine Ext.trans ?_ (by assumption)))⟩

set_option maxRecDepth 100000 in
set_option maxHeartbeats 1000000 in
theorem prof_impl (w : World) (sz : Int) (a : Option Addr) (c : Nat) (vs : List Vt) (hR : RdV w a vs) :
    Calls Try.prog 35 #[.agg #[.int .i64 sz, .slice a vs.length c]] w fun e w' => e = .returned (.bool (profOk sz vs)) ∧ Ext w w' := by
  cases h1 : inR sz 1 5
  · go_enter Try.func35, Try.ntmps35
    go_wp2_with (go_at_call 94; refine (in_impl _ _ _ _).mono ?_; rintro e w1 ⟨rfl, hw1⟩; have hc1 := hw1.cellS; have hf1 := hw1.frozenS)
    go_ret
    exact ⟨ret_bool (by simp [profOk, h1]), (by repeat (first | exact Ext.refl _ | assumption | refine Ext.alloc ?_ _ | refine Ext.drew ?_ | refine Ext.trans ?_ (by assumption)))⟩
  by_cases hl : vs.length ≤ 24
  · have HC := hide (fun (w1 : World) (hw1 : Ext (w.alloc (.cells #[.int .i64 sz, .slice a vs.length c] 47)) w1) =>
      containsFuncV 125 #[] #[.pointer (some ⟨w.heap.size, 0, none⟩)] (fun x => !vtOk sz x) w1 a c vs (hR.ext hw1.a) (by omega) (fun _ _ => Try.call125 _ _)
        (fun x a' c' w' _ hw' hRx hc' => profOne_impl w' sz _ 0 a' c' x hRx hc' (hw'.keep (hw1.keep (new0 w _ _ _)))))
    go_enter Try.func35, Try.ntmps35
    go_wp2_with (go_at_call 94; refine (in_impl _ _ _ _).mono ?_; rintro e w1 ⟨rfl, hw1⟩; have hc1 := hw1.cellS; have hf1 := hw1.frozenS)
    refine (HC.out _ hw1).mono ?_
    rintro e w2 ⟨rfl, hw2⟩
    go_wp2
    go_ret
    exact ⟨ret_bool (by simp [profOk, h1, hl, any_not]), (by repeat (first | exact Ext.refl _ | assumption | refine Ext.alloc ?_ _ | refine Ext.drew ?_ | refine Ext.trans ?_ (by assumption)))⟩
  · go_enter Try.func35, Try.ntmps35
    go_wp2_with (go_at_call 94; refine (in_impl _ _ _ _).mono ?_; rintro e w1 ⟨rfl, hw1⟩; have hc1 := hw1.cellS; have hf1 := hw1.frozenS)
    go_ret
    exact ⟨ret_bool (by simp [profOk, hl]), (by repeat (first | exact Ext.refl _ | assumption | refine Ext.alloc ?_ _ | refine Ext.drew ?_ | refine Ext.trans ?_ (by assumption)))⟩

open Go.ChangeShapes Go.WideShapes Go.ChangeAt Go.RowKit Go.Joins Go.Deep

section
variable {H : Type} {enc : TypeId × Value → H} {W : World} {base : Nat} {spare : Nat → Bool} {held : Bool} {b0 : Nat}
set_option maxRecDepth 100000 in
theorem openI_trod {fuel : Nat} {v : Value} {x : DataW H × List MemPlace} (h : DataW.trod enc Try.prog W base spare held fuel 29 [v] = some x) :
    ∃ (a : Option Addr) (xs : List Int) (c : Nat), v = .slice a xs.length c ∧ RdI W a xs ∧ xs.length ≤ c ∧ xs.length ≤ maxLen := by
  rcases open_ints Try.underlying29 Try.underlying3 (by kernel_rfl) h with ⟨e1, _⟩ | ⟨a, len, cap, zs, e1, _, hl, hm, hzl, _, hc, _⟩
  · simp at e1
    subst e1
    exact ⟨none, [], 0, rfl, RdI.nil _ _, Nat.le_refl _, by simp⟩
  · simp at e1
    subst e1
    have hle : len ≤ zs.length := by rw [hzl]; split <;> omega
    have htl : (zs.take len).length = len := by simp; omega
    refine ⟨some a, zs.take len, cap, by rw [htl], fun hne => ?_, by omega, by omega⟩
    have hpos : 0 < len := by have := List.length_pos_iff.2 hne; omega
    have h0 := hc 0 (by omega)
    obtain ⟨b, off, spot⟩ := a
    have hspot : spot = none := by simpa [Addr.add] using World.cell?_spot h0
    subst hspot
    refine ⟨b, off, rfl, fun j y hy => ?_⟩
    have hj := lt_of_at hy
    rw [htl] at hj
    have h2 := hc j (by omega)
    rw [addr_add_none] at h2
    rw [h2]
    rw [List.getElem?_take_of_lt hj] at hy
    simp [List.getD, hy]

set_option maxRecDepth 100000 in
theorem openIS {v : Value} {d : DataW H} {p : List MemPlace} (hv : Value.okWide Try.prog W .any b0 29 v) (h : DataW.Trod enc Try.prog W base spare held 29 v d p) :
    ∃ (a : Option Addr) (xs : List Int) (c : Nat), v = .slice a xs.length c ∧ RdI W a xs ∧ xs.length ≤ maxLen := by
  obtain ⟨m, hm⟩ := h
  obtain ⟨_, _, _, rfl⟩ := okWide_slice Try.underlying29 hv
  obtain ⟨a, xs, c, hv, hR, _, hl⟩ := openI_trod hm
  exact ⟨a, xs, c, hv, hR, hl⟩

end

end Go.Proofs.Ythiojkpoeejkaaa
