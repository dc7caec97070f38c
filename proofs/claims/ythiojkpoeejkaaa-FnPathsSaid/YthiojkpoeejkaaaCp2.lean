/- Which rankings are valid: both packages' tests answer as one plain function. Profiles in memory: a slice of votes reads as a list of rankings with counts. The statements' own helpers on profiles: measured and copied. Lists of integers as the statements' helpers meet them: compared, marked, held. Lists of integers that may be written. -/
import Derived.Test.YthiojkpoeejkaaaCp1
namespace Go.Proofs.Ythiojkpoeejkaaa
open Go.RowKit

def rkOk (m : Int) (xs : List Int) : Bool := inR m 1 5 && (decide ((xs.length : Int) = m) && (xs.all (fun x => inR x 0 (m - 1)) && decide xs.Nodup))
def preOk (m : Int) (xs : List Int) (k : Nat) : Prop := (xs.take k).all (fun x => inR x 0 (m - 1)) = true ∧ (xs.take k).Nodup
set_option maxRecDepth 100000 in
theorem pre_zero (m : Int) (xs : List Int) : preOk m xs 0 := by simp [preOk]
set_option maxRecDepth 100000 in
theorem pre_succ {m : Int} {xs : List Int} {k : Nat} {x : Int} (hx : xs[k]? = some x) (h : preOk m xs k) (h1 : inR x 0 (m - 1) = true) (h2 : x ∉ xs.take k) : preOk m xs (k + 1) := by
  refine ⟨(all_take hx h.1).trans h1, ?_⟩
  rw [take_at hx, List.nodup_append]
  refine ⟨h.2, by simp, fun a ha b hb => ?_⟩
  simp at hb
  subst hb
  rintro rfl
  exact h2 ha
set_option maxRecDepth 100000 in
theorem rk_false1 {m : Int} {xs : List Int} {k : Nat} {x : Int} (hx : xs[k]? = some x) (h1 : inR x 0 (m - 1) = false) : rkOk m xs = false := by
  have : xs.all (fun x => inR x 0 (m - 1)) = false := all_false hx h1
  simp [rkOk, this]
set_option maxRecDepth 100000 in
theorem rk_false2 {m : Int} {xs : List Int} {k : Nat} {x : Int} (hx : xs[k]? = some x) (h1 : x ∈ xs.take k) : rkOk m xs = false := by
  have : ¬ xs.Nodup := fun hn => by
    have h2 : (xs.take (k + 1)).Nodup := hn.sublist (List.take_sublist _ _)
    rw [take_at hx, List.nodup_append] at h2
    exact h2.2.2 x h1 x (by simp) rfl
  simp [rkOk, this]
set_option maxRecDepth 100000 in
theorem rk_true {m : Int} {xs : List Int} (h1 : inR m 1 5 = true) (h2 : (xs.length : Int) = m) (h : preOk m xs xs.length) : rkOk m xs = true := by
  unfold preOk at h
  rw [List.take_length] at h
  simp only [rkOk, h1, h.1, decide_eq_true h2, decide_eq_true h.2]; rfl

set_option maxRecDepth 100000 in
theorem info_bool : (Try.prog.info? 4).map (fun i => (i.zero, i.size, i.bytes)) = some (some (.bool false), 1, 1) := by kernel_rfl
set_option maxRecDepth 100000 in
theorem made_bool (n j : Nat) (hj : j < n) : (madeCells (Value.bool false).cells n).getD j undef = .bool false := by
  have h := toList_madeCells_one (.bool false) n
  have h2 : (madeCells #[Value.bool false] n).toList[j]? = some (.bool false) := by rw [h]; simp [hj]
  show (madeCells #[Value.bool false] n).getD j undef = _
  rw [Array.getElem?_toList] at h2
  simp [h2]

/-- Seen among the first k. -/
def seenB (xs : List Int) (k j : Nat) : Value := .bool (hasI (xs.take k) (j : Int))

set_option maxRecDepth 100000 in
set_option maxHeartbeats 2000000 in
theorem rank_spec_n (w : World) (n : Nat) (a : Option Addr) (c : Nat) (xs : List Int) (hR : RdI w a xs) (HN : Hid (xs.length = n)) (h1 : inR (n : Int) 1 5 = true) :
    Calls Try.prog 41 #[.int .i64 n, .slice a n c] w fun e w' => e = .returned (.bool (rkOk n xs)) ∧ Ext w w' := by
  obtain ⟨m1, m5⟩ := inR_iff.1 h1
  obtain ⟨i0, hi, hz0, hz1, hz2⟩ := info_parts info_bool
  have hmk := fun W => run_make_rowN (P := Try.prog) 107 4 i0 _ Try.underlying107 hi hz0 .i64 .i64 n n (Nat.le_refl _) (by rw [hz2]; omega) (by omega) W
  rw [hz1] at hmk
  go_enter Try.func41, Try.ntmps41
  go_wp2_with (go_at_call 131; refine (in_spec _ _ _ _).mono ?_; rintro e w1 ⟨rfl, hw1⟩)
  have hw : Ext w w1 := (by repeat (first | exact Ext.refl _ | assumption | refine Ext.alloc ?_ _ | refine Ext.drew ?_ | refine Ext.trans ?_ (by assumption)))
  obtain ⟨W0, rfl⟩ : ∃ W0 : World, W0 = w1 := ⟨_, rfl⟩
  clear hmk
  go_loopw [7, 21] (fun _ i wr => ∃ k : Nat, k ≤ n ∧ i = .int .i64 k ∧ Hid (preOk n xs k) ∧ BlkF wr W0.heap.size n (seenB xs k) ∧ Ext W0 wr) (fun _ i _ => n - (intOf i).toNat)
  case atStart =>
    refine ⟨0, Nat.zero_le _, rfl, pre_zero _ _, ?_, (by repeat (first | exact Ext.refl _ | assumption | refine Ext.alloc ?_ _ | refine Ext.drew ?_ | refine Ext.trans ?_ (by assumption)))⟩
    have h := BlkF.new W0 (madeCells (Value.bool false).cells n) 4
    rw [size_madeCells] at h
    exact h.congr (fun o ho => by rw [made_bool n o ho]; simp [seenB, hasI])
  case round =>
    obtain ⟨k, hk, rfl, hpre, hB, hwr⟩ := hrel
    by_cases hlt : k < n
    · obtain ⟨x, hx⟩ := at_of_lt (xs := xs) (k := k) (by have := HN.out; omega)
      obtain ⟨b, off, rfl, c0⟩ := (hR.ext (hw.trans hwr)).at_ hx
      have HX := hide hx
      clear hx
      cases hin : inR x 0 ((n : Int) - 1)
      · go_wp2_with (go_at_call 131; refine (in_spec _ _ _ _).mono ?_; rintro e w1 ⟨rfl, hw1⟩)
        go_ret
        exact ⟨ret_bool (rk_false1 HX.out hin).symm, (by repeat (first | exact Ext.refl _ | assumption | refine Ext.alloc ?_ _ | refine Ext.drew ?_ | refine Ext.trans ?_ (by assumption)))⟩
      · obtain ⟨x0, x1⟩ := inR_iff.1 hin
        obtain ⟨j, rfl⟩ : ∃ j : Nat, x = (j : Int) := ⟨x.toNat, by omega⟩
        have hj : j < n := by omega
        cases hs : hasI (xs.take k) (j : Int)
        · go_wp2_with fail
          refine (in_spec _ _ _ _).mono ?_
          rintro e w1 ⟨rfl, hw1⟩
          have hB1 := hB.ext hw1
          have d0 := hB1.cell j hj
          simp only [seenB, hs] at d0
          have z0 := hB1.fr j
          go_wp2
          refine ⟨⟨k + 1, by omega, by go_num, pre_succ HX.out hpre.out hin (by simpa [hasI] using hs), (hB1.set j hj _).congr (fun o ho => ?_), Ext.setCell (Ext.trans hwr hw1) (Nat.le_refl _) _⟩, by simp [intOf]; omega⟩
          unfold seenB hasI
          rw [take_at HX.out]
          by_cases e : o = j
          · subst e; simp
          · rw [if_neg e]
            congr 1
            rw [Bool.eq_iff_iff, List.contains_iff_mem, List.contains_iff_mem, List.mem_append]
            simp
            omega
        · go_wp2_with fail
          refine (in_spec _ _ _ _).mono ?_
          rintro e w1 ⟨rfl, hw1⟩
          have hB1 := hB.ext hw1
          have d0 := hB1.cell j hj
          simp only [seenB, hs] at d0
          go_wp2
          go_ret
          exact ⟨ret_bool (rk_false2 HX.out (by simpa [hasI] using hs)).symm, (by repeat (first | exact Ext.refl _ | assumption | refine Ext.alloc ?_ _ | refine Ext.drew ?_ | refine Ext.trans ?_ (by assumption)))⟩
    · obtain rfl : k = n := by omega
      go_wp2
      go_ret
      refine ⟨ret_bool ?_, hw.trans hwr⟩
      have h2 := HN.out
      have h3 := hpre.out
      subst h2
      exact (rk_true h1 rfl h3).symm

set_option maxRecDepth 100000 in
set_option maxHeartbeats 2000000 in
theorem rank_spec (w : World) (m : Int) (a : Option Addr) (c : Nat) (xs : List Int) (hR : RdI w a xs)  :
    Calls Try.prog 41 #[.int .i64 m, .slice a xs.length c] w fun e w' => e = .returned (.bool (rkOk m xs)) ∧ Ext w w' := by
  cases h1 : inR m 1 5
  · go_enter Try.func41, Try.ntmps41
    go_wp2_with (go_at_call 131; refine (in_spec _ _ _ _).mono ?_; rintro e w1 ⟨rfl, hw1⟩)
    go_ret
    exact ⟨ret_bool (by simp [rkOk, h1]), hw1⟩
  by_cases hlen : (xs.length : Int) = m
  · subst hlen
    exact rank_spec_n w xs.length a c xs hR rfl h1
  · have hne : ((xs.length : Int) != m) = true := by simpa using hlen
    go_enter Try.func41, Try.ntmps41
    go_wp2_with (go_at_call 131; refine (in_spec _ _ _ _).mono ?_; rintro e w1 ⟨rfl, hw1⟩)
    go_ret
    exact ⟨ret_bool (by simp [rkOk, hlen]), hw1⟩

set_option maxRecDepth 100000 in
theorem RdI.take {w : World} {a : Option Addr} {xs : List Int} (h : RdI w a xs) (k : Nat) : RdI w a (xs.take k) := fun hne => by
  have hx : xs ≠ [] := by rintro rfl; simp at hne
  obtain ⟨b, off, ha, hc⟩ := h hx
  refine ⟨b, off, ha, fun j x hj => hc j x ?_⟩
  rw [List.getElem?_take] at hj
  split at hj
  · exact hj
  · cases hj
set_option maxRecDepth 100000 in
theorem RdI.rdB {w : World} {a : Option Addr} {xs : List Int} (h : RdI w a xs) (n c : Nat) (hn : xs.length = n) : RdB w w.heap.size (.slice a n c) xs := by
  subst hn
  refine ⟨a, c, rfl, h, fun b off ha hne => ?_⟩
  obtain ⟨b', off', ha', hc⟩ := h hne
  rw [ha] at ha'
  injection ha' with ha'
  injection ha' with hb _ _
  subst hb
  obtain ⟨x, hx⟩ := at_of_lt (List.length_pos_iff.2 hne)
  exact World.block_lt_of_cell? w _ (hc 0 x hx)

set_option maxRecDepth 100000 in
set_option maxHeartbeats 2000000 in
theorem rank_impl_n (w : World) (n : Nat) (a : Option Addr) (c : Nat) (xs : List Int) (hR : RdI w a xs) (HN : Hid (xs.length = n)) (hc : n ≤ c) (h1 : inR (n : Int) 1 5 = true) :
    Calls Try.prog 116 #[.int .i64 n, .slice a n c] w fun e w' => e = .returned (.bool (rkOk n xs)) ∧ Ext w w' := by
  obtain ⟨m1, m5⟩ := inR_iff.1 h1
  go_enter Try.func116, Try.ntmps116
  go_wp2_with (go_at_call 94; refine (in_impl _ _ _ _).mono ?_; rintro e w1 ⟨rfl, hw1⟩)
  obtain ⟨W0, rfl⟩ : ∃ W0 : World, W0 = w1 := ⟨_, rfl⟩
  go_loopw [5, 6, 18] (fun _ _ i wr => ∃ k : Nat, k ≤ n ∧ i = .int .i64 k ∧ Hid (preOk n xs k) ∧ Ext W0 wr) (fun _ _ i _ => n - (intOf i).toNat)
  case atStart => exact ⟨0, Nat.zero_le _, rfl, pre_zero _ _, Ext.refl _⟩
  case round =>
    obtain ⟨k, hk, rfl, hpre, hwr⟩ := hrel
    by_cases hlt : k < n
    · obtain ⟨x, hx⟩ := at_of_lt (xs := xs) (k := k) (by have := HN.out; omega)
      obtain ⟨b, off, rfl, c0⟩ := (hR.ext (hw1.trans hwr)).at_ hx
      have hRB := hide (fun (w' : World) (hw' : Ext w w') => ((hR.ext hw').take k).rdB k c (by rw [List.length_take, HN.out]; omega))
      have HX := hide hx
      clear hx
      have htl := hide (show (xs.take k).length ≤ 2000000 by rw [List.length_take]; omega)
      cases hin : inR x 0 ((n : Int) - 1)
      · go_wp2_with (go_at_call 94; refine (in_impl _ _ _ _).mono ?_; rintro e w1 ⟨rfl, hw1⟩)
        go_ret
        exact ⟨ret_bool (rk_false1 HX.out hin).symm, (by repeat (first | exact Ext.refl _ | assumption | refine Ext.alloc ?_ _ | refine Ext.drew ?_ | refine Ext.trans ?_ (by assumption)))⟩
      · cases hs : hasI (xs.take k) x
        · go_wp2_with (first | (go_at_call 94; refine (in_impl _ _ _ _).mono ?_; rintro e w1 ⟨rfl, hw1⟩; have c0 := Ext.keep (w' := w1) (by repeat (first | exact Ext.refl _ | assumption | refine Ext.alloc ?_ _ | refine Ext.drew ?_ | refine Ext.trans ?_ (by assumption))) c0) | (go_at_call 99; refine (containsI _ _ _ _ _ (hRB.out _ (by repeat (first | exact Ext.refl _ | assumption | refine Ext.alloc ?_ _ | refine Ext.drew ?_ | refine Ext.trans ?_ (by assumption)))) htl.out).mono ?_; rintro e w1 ⟨rfl, hw1⟩))
          exact ⟨⟨k + 1, by omega, by go_num, pre_succ HX.out hpre.out hin (by simpa [hasI] using hs), (by repeat (first | exact Ext.refl _ | assumption | refine Ext.alloc ?_ _ | refine Ext.drew ?_ | refine Ext.trans ?_ (by assumption)))⟩, by simp [intOf]; omega⟩
        · go_wp2_with (first | (go_at_call 94; refine (in_impl _ _ _ _).mono ?_; rintro e w1 ⟨rfl, hw1⟩; have c0 := Ext.keep (w' := w1) (by repeat (first | exact Ext.refl _ | assumption | refine Ext.alloc ?_ _ | refine Ext.drew ?_ | refine Ext.trans ?_ (by assumption))) c0) | (go_at_call 99; refine (containsI _ _ _ _ _ (hRB.out _ (by repeat (first | exact Ext.refl _ | assumption | refine Ext.alloc ?_ _ | refine Ext.drew ?_ | refine Ext.trans ?_ (by assumption)))) htl.out).mono ?_; rintro e w1 ⟨rfl, hw1⟩))
          go_ret
          exact ⟨ret_bool (rk_false2 HX.out (by simpa [hasI] using hs)).symm, (by repeat (first | exact Ext.refl _ | assumption | refine Ext.alloc ?_ _ | refine Ext.drew ?_ | refine Ext.trans ?_ (by assumption)))⟩
    · obtain rfl : k = n := by omega
      go_wp2
      go_ret
      refine ⟨ret_bool ?_, (by repeat (first | exact Ext.refl _ | assumption | refine Ext.alloc ?_ _ | refine Ext.drew ?_ | refine Ext.trans ?_ (by assumption)))⟩
      have h3 := hpre.out
      rw [← HN.out] at h3 h1 ⊢
      exact (rk_true h1 rfl h3).symm

set_option maxRecDepth 100000 in
set_option maxHeartbeats 2000000 in
theorem rank_impl (w : World) (m : Int) (a : Option Addr) (c : Nat) (xs : List Int) (hR : RdI w a xs) (hc : xs.length ≤ c) :
    Calls Try.prog 116 #[.int .i64 m, .slice a xs.length c] w fun e w' => e = .returned (.bool (rkOk m xs)) ∧ Ext w w' := by
  cases h1 : inR m 1 5
  · go_enter Try.func116, Try.ntmps116
    go_wp2_with (go_at_call 94; refine (in_impl _ _ _ _).mono ?_; rintro e w1 ⟨rfl, hw1⟩)
    go_ret
    exact ⟨ret_bool (by simp [rkOk, h1]), hw1⟩
  by_cases hlen : (xs.length : Int) = m
  · subst hlen
    exact rank_impl_n w xs.length a c xs hR rfl hc h1
  · have hne : ((xs.length : Int) != m) = true := by simpa using hlen
    go_enter Try.func116, Try.ntmps116
    go_wp2_with (go_at_call 94; refine (in_impl _ _ _ _).mono ?_; rintro e w1 ⟨rfl, hw1⟩)
    go_ret
    exact ⟨ret_bool (by simp [rkOk, hlen]), hw1⟩

abbrev Vt := List Int × Int
/-- The slice address a reads as the votes vs. -/
def RdV (w : World) (a : Option Addr) (vs : List Vt) : Prop :=
  vs ≠ [] → ∃ b off, a = some ⟨b, off, none⟩ ∧ ∀ (j : Nat) (x : Vt), vs[j]? = some x → ∃ a' c', w.cell? ⟨b, off + j * 2, none⟩ = some (.slice a' x.1.length c') ∧
    w.cell? ⟨b, off + j * 2 + 1, none⟩ = some (.int .i64 x.2) ∧ x.1.length ≤ c' ∧ RdI w a' x.1
set_option maxRecDepth 100000 in
theorem RdV.ext {w w' : World} {a : Option Addr} {vs : List Vt} (h : RdV w a vs) (hw : Ext w w') : RdV w' a vs := fun hne => by
  obtain ⟨b, off, ha, hc⟩ := h hne
  refine ⟨b, off, ha, fun j x hx => ?_⟩
  obtain ⟨a', c', h0, h1, h2, h3⟩ := hc j x hx
  exact ⟨a', c', hw.keep h0, hw.keep h1, h2, h3.ext hw⟩
set_option maxRecDepth 100000 in
theorem RdV.nil (w : World) (a : Option Addr) : RdV w a [] := fun h => absurd rfl h
set_option maxRecDepth 100000 in
theorem RdV.at_ {w : World} {a : Option Addr} {vs : List Vt} (h : RdV w a vs) {k : Nat} {x : Vt} (hx : vs[k]? = some x) :
    ∃ b off a' c', a = some ⟨b, off, none⟩ ∧ w.cell? ⟨b, off + k * 2, none⟩ = some (.slice a' x.1.length c') ∧ w.cell? ⟨b, off + k * 2 + 1, none⟩ = some (.int .i64 x.2) ∧ x.1.length ≤ c' ∧ RdI w a' x.1 := by
  obtain ⟨b, off, ha, hc⟩ := h (ne_of_at hx)
  obtain ⟨a', c', h⟩ := hc k x hx
  exact ⟨b, off, a', c', ha, h⟩

def vtOk (sz : Int) (x : Vt) : Bool := rkOk sz x.1 && inR x.2 1 1000
def profOk (sz : Int) (vs : List Vt) : Bool := inR sz 1 5 && (decide (vs.length ≤ 24) && vs.all (vtOk sz))

set_option maxRecDepth 100000 in
set_option maxHeartbeats 1000000 in
theorem indexFuncV (K : Nat) (fst cap : Array Value) (p : Vt → Bool) (w : World) (a : Option Addr) (c : Nat) (vs : List Vt) (hR : RdV w a vs) (hl : vs.length ≤ 2000000) (hK : Enters Try.prog K)
    (hf : ∀ (x : Vt) (a' : Option Addr) (c' : Nat) (w' : World), x ∈ vs → Ext w w' → RdI w' a' x.1 → x.1.length ≤ c' → Calls Try.prog K (fst.push (.agg #[.slice a' x.1.length c', .int .i64 x.2]) ++ cap) w' fun e w'' => e = .returned (.bool (p x)) ∧ Ext w' w'') :
    Calls Try.prog 193 #[.slice a vs.length c, .func (.func K) fst cap] w fun e w' => e = .returned (.int .i64 (findI p vs)) ∧ Ext w w' := by
  unfold Enters at hK
  have HF := hide hf
  clear hf
  go_enter Try.func193, Try.ntmps193
  go_wp2_with fail
  go_loopw [5, 8] (fun _ i wr => ∃ k : Nat, k ≤ vs.length ∧ i = .int .i64 k ∧ Hid ((vs.take k).all (fun x => !p x) = true) ∧ Ext w wr) (fun _ i _ => vs.length - (intOf i).toNat)
  case atStart => exact ⟨0, Nat.zero_le _, rfl, rfl, Ext.refl _⟩
  case round =>
    obtain ⟨k, hk, rfl, hall, hwr⟩ := hrel
    by_cases hlt : k < vs.length
    · obtain ⟨x, hx⟩ := at_of_lt hlt
      obtain ⟨b, off, a', c', rfl, c0, c1, hc', hRx⟩ := (hR.ext hwr).at_ hx
      have HX := hide hx
      clear hx
      cases hp : p x
      all_goals
        go_wp2_with fail
        refine (HF.out x a' c' wr (List.mem_of_getElem? HX.out) hwr hRx hc').mono ?_
        rintro e w1 ⟨rfl, hw1⟩
        go_wp2
      · exact ⟨⟨k + 1, by omega, by go_num, (all_take HX.out hall.out).trans (by simp [hp]), hwr.trans hw1⟩, by simp [intOf]; omega⟩
      · go_ret
        exact ⟨ret_int (findI_some HX.out hall.out hp).symm, hwr.trans hw1⟩
    · go_wp2
      go_ret
      exact ⟨ret_int (findI_none (all_whole (by omega) hall.out)).symm, hwr⟩

set_option maxRecDepth 100000 in
set_option maxHeartbeats 1000000 in
theorem containsFuncV (K : Nat) (fst cap : Array Value) (p : Vt → Bool) (w : World) (a : Option Addr) (c : Nat) (vs : List Vt) (hR : RdV w a vs) (hl : vs.length ≤ 2000000) (hK : Enters Try.prog K)
    (hf : ∀ (x : Vt) (a' : Option Addr) (c' : Nat) (w' : World), x ∈ vs → Ext w w' → RdI w' a' x.1 → x.1.length ≤ c' → Calls Try.prog K (fst.push (.agg #[.slice a' x.1.length c', .int .i64 x.2]) ++ cap) w' fun e w'' => e = .returned (.bool (p x)) ∧ Ext w' w'') :
    Calls Try.prog 124 #[.slice a vs.length c, .func (.func K) fst cap] w fun e w' => e = .returned (.bool (vs.any p)) ∧ Ext w w' := by
  have H := hide (indexFuncV K fst cap p w a c vs hR hl hK hf)
  clear hf
  go_enter Try.func124, Try.ntmps124
  go_wp2_with fail
  refine H.out.mono ?_
  rintro e w1 ⟨rfl, hw1⟩
  go_wp2
  go_ret
  exact ⟨ret_bool (findI_nonneg p vs), hw1⟩

set_option maxRecDepth 100000 in
set_option maxHeartbeats 1000000 in
theorem profOne_impl (w : World) (sz : Int) (b off : Nat) (a' : Option Addr) (c' : Nat) (x : Vt) (hRx : RdI w a' x.1) (hc' : x.1.length ≤ c')
    (h0 : w.cell? ⟨b, off, none⟩ = some (.int .i64 sz)) :
    Calls Try.prog 125 #[.agg #[.slice a' x.1.length c', .int .i64 x.2], .pointer (some ⟨b, off, none⟩)] w fun e w' => e = .returned (.bool (!vtOk sz x)) ∧ Ext w w' := by
  have e0 := new0 w (.slice a' x.1.length c') [.int .i64 x.2] 97
  have e1 := new1 w (.slice a' x.1.length c') (.int .i64 x.2) [] 97
  cases g1 : rkOk sz x.1
  all_goals
    go_enter Try.func125, Try.ntmps125
    go_wp2_with (first | (go_at_call 116; refine (rank_impl _ _ _ _ _ (hRx.ext (by repeat (first | exact Ext.refl _ | assumption | refine Ext.alloc ?_ _ | refine Ext.drew ?_ | refine Ext.trans ?_ (by assumption)))) hc').mono ?_; rintro e w1 ⟨rfl, hw1⟩; have e0 := Ext.keep (w' := w1) (by repeat (first | exact Ext.refl _ | assumption | refine Ext.alloc ?_ _ | refine Ext.drew ?_ | refine Ext.trans ?_ (by assumption))) e0; have e1 := Ext.keep (w' := w1) (by repeat (first | exact Ext.refl _ | assumption | refine Ext.alloc ?_ _ | refine Ext.drew ?_ | refine Ext.trans ?_ (by assumption))) e1) | (go_at_call 94; refine (in_impl _ _ _ _).mono ?_; rintro e w1 ⟨rfl, hw1⟩))
    go_ret
  · exact ⟨ret_bool (by simp [vtOk, g1]), (by repeat (first | exact Ext.refl _ | assumption | refine Ext.alloc ?_ _ | refine Ext.drew ?_ | refine Ext.trans ?_ (by assumption)))⟩
  · exact ⟨ret_bool (by simp [vtOk, g1]), (by repeat (first | exact Ext.refl _ | assumption | refine Ext.alloc ?_ _ | refine Ext.drew ?_ | refine Ext.trans ?_ (by assumption)))⟩

set_option maxRecDepth 100000 in
set_option maxHeartbeats 1000000 in
theorem prof_impl (w : World) (sz : Int) (a : Option Addr) (c : Nat) (vs : List Vt) (hR : RdV w a vs) :
    Calls Try.prog 35 #[.agg #[.int .i64 sz, .slice a vs.length c]] w fun e w' => e = .returned (.bool (profOk sz vs)) ∧ Ext w w' := by
  cases h1 : inR sz 1 5
  · go_enter Try.func35, Try.ntmps35
    go_wp2_with (go_at_call 94; refine (in_impl _ _ _ _).mono ?_; rintro e w1 ⟨rfl, hw1⟩; have hc1 := hw1.cellS; have hf1 := hw1.frozenS)
    go_ret
    exact ⟨ret_bool (by simp [profOk, h1]), (by repeat (first | exact Ext.refl _ | assumption | refine Ext.alloc ?_ _ | refine Ext.drew ?_ | refine Ext.trans ?_ (by assumption)))⟩
  by_cases hl : vs.length ≤ 24
  · have HC := hide (fun (w1 : World) (hw1 : Ext (w.alloc (.cells #[.int .i64 sz, .slice a vs.length c] 47)) w1) =>
      containsFuncV 125 #[] #[.pointer (some ⟨w.heap.size, 0, none⟩)] (fun x => !vtOk sz x) w1 a c vs (hR.ext hw1.a) (by omega) (fun _ _ => Try.call125 _ _)
        (fun x a' c' w' _ hw' hRx hc' => profOne_impl w' sz _ 0 a' c' x hRx hc' (hw'.keep (hw1.keep (new0 w _ _ _)))))
    go_enter Try.func35, Try.ntmps35
    go_wp2_with (go_at_call 94; refine (in_impl _ _ _ _).mono ?_; rintro e w1 ⟨rfl, hw1⟩; have hc1 := hw1.cellS; have hf1 := hw1.frozenS)
    refine (HC.out _ hw1).mono ?_
    rintro e w2 ⟨rfl, hw2⟩
    go_wp2
    go_ret
    exact ⟨ret_bool (by simp [profOk, h1, hl, any_not]), (by repeat (first | exact Ext.refl _ | assumption | refine Ext.alloc ?_ _ | refine Ext.drew ?_ | refine Ext.trans ?_ (by assumption)))⟩
  · go_enter Try.func35, Try.ntmps35
    go_wp2_with (go_at_call 94; refine (in_impl _ _ _ _).mono ?_; rintro e w1 ⟨rfl, hw1⟩; have hc1 := hw1.cellS; have hf1 := hw1.frozenS)
    go_ret
    exact ⟨ret_bool (by simp [profOk, hl]), (by repeat (first | exact Ext.refl _ | assumption | refine Ext.alloc ?_ _ | refine Ext.drew ?_ | refine Ext.trans ?_ (by assumption)))⟩

def szN (n left : Int) : Int := if left - n < 0 then -1 else left - n

set_option maxRecDepth 100000 in
theorem szN_bd {n left : Int} (h0 : 0 ≤ left) (hn : 0 ≤ n) : (szN n left < 0 ∧ szN n left = -1) ∨ (0 ≤ szN n left ∧ szN n left ≤ left ∧ n ≤ left ∧ szN n left = left - n) := by
  unfold szN; split <;> omega

def SzOk (left : Int) (vs : List Vt) (r : Int) : Prop := r < 0 ∨ (r ≤ left ∧ vs.length ≤ left ∧ ∀ x ∈ vs, (x.1.length : Int) ≤ left)

set_option maxRecDepth 100000 in
theorem BlkF.rdI {w : World} {g n : Nat} {f : Nat → Value} {xs : List Int} (hB : BlkF w g n f) (hn : xs.length ≤ n) (hf : ∀ j x, xs[j]? = some x → f j = .int .i64 x) : RdI w (some ⟨g, 0, none⟩) xs := fun _ => by
  refine ⟨g, 0, rfl, fun j x hx => ?_⟩
  have := lt_of_at hx
  rw [Nat.zero_add, hB.cell _ (by omega), hf j x hx]

/-- The slice a is the call's own copy of the votes: its blocks lie from lo on and below hi, and may be written. -/
def OwnV (w : World) (lo hi : Nat) (g : Nat) (vs : List Vt) (k : Nat) : Prop := ∃ (f : Nat → Value) (h : Nat → Nat), lo ≤ g ∧ g < hi ∧ BlkF w g (vs.length * 2) f ∧
  ∀ j x, j < k → vs[j]? = some x → f (j * 2) = .slice (some ⟨h j, 0, none⟩) x.1.length x.1.length ∧ f (j * 2 + 1) = .int .i64 x.2 ∧ g < h j ∧ h j < hi ∧
    (∀ i, i < j → h i < h j) ∧ ∃ fi, BlkF w (h j) x.1.length fi ∧ ∀ i y, x.1[i]? = some y → fi i = .int .i64 y
set_option maxRecDepth 100000 in
theorem OwnV.ext {w w' : World} {lo hi g k : Nat} {vs : List Vt} (h : OwnV w lo hi g vs k) (hw : Ext w w') : OwnV w' lo hi g vs k := by
  obtain ⟨f, h, h1, h2, hB, hj⟩ := h
  refine ⟨f, h, h1, h2, hB.ext hw, fun j x hk hx => ?_⟩
  obtain ⟨a0, a1, a2, a3, a4, fi, a5, a6⟩ := hj j x hk hx
  exact ⟨a0, a1, a2, a3, a4, fi, a5.ext hw, a6⟩
set_option maxRecDepth 100000 in
theorem OwnV.rd {w : World} {lo hi g : Nat} {vs : List Vt} (h : OwnV w lo hi g vs vs.length) : RdV w (some ⟨g, 0, none⟩) vs := fun _ => by
  obtain ⟨f, h, h1, h2, hB, hj⟩ := h
  refine ⟨g, 0, rfl, fun j x hx => ?_⟩
  have hl := lt_of_at hx
  obtain ⟨a0, a1, a2, a3, a4, fi, a5, a6⟩ := hj j x hl hx
  refine ⟨_, _, ?_, ?_, Nat.le_refl _, a5.rdI (Nat.le_refl _) a6⟩
  · rw [Nat.zero_add, hB.cell _ (by omega), a0]
  · rw [Nat.zero_add, hB.cell _ (by omega), a1]
set_option maxRecDepth 100000 in
/-- One more vote has been copied into its place. -/
theorem OwnV.put {w : World} {lo hi hi' g k : Nat} {vs : List Vt} {x : Vt} (h : OwnV w lo hi g vs k) (hx : vs[k]? = some x) (gk : Nat) (fk : Nat → Value) (hg : hi ≤ gk) (hg' : gk < hi') (hB : BlkF w gk x.1.length fk)
    (hf : ∀ i y, x.1[i]? = some y → fk i = .int .i64 y) :
    OwnV ((w.setCell ⟨g, k * 2, none⟩ (.slice (some ⟨gk, 0, none⟩) x.1.length x.1.length)).setCell ⟨g, k * 2 + 1, none⟩ (.int .i64 x.2)) lo hi' g vs (k + 1) := by
  obtain ⟨f, h, h1, h2, hB0, hj⟩ := h
  have hl := lt_of_at hx
  obtain ⟨h', hh'⟩ : ∃ h' : Nat → Nat, h' = fun j => if j = k then gk else h j := ⟨_, rfl⟩
  have e1 : h' k = gk := by rw [hh']; simp
  have e2 : ∀ j, j ≠ k → h' j = h j := fun j hj => by rw [hh']; simp [hj]
  refine ⟨_, h', h1, by omega, (hB0.set (k * 2) (by omega) _).set (k * 2 + 1) (by omega) _, fun j y hk hy => ?_⟩
  by_cases e : j = k
  · subst e
    rw [hx] at hy
    injection hy with hy
    subst hy
    rw [e1]
    refine ⟨?_, ?_, by omega, hg', ?_, fk, (hB.far (by simp; omega) _).far (by simp; omega) _, hf⟩
    · rw [if_neg (by omega), if_pos rfl]
    · rw [if_pos rfl]
    · intro i hi
      rw [e2 i (by omega)]
      obtain ⟨z, hz⟩ := at_of_lt (xs := vs) (k := i) (by omega)
      have := (hj i z hi hz).2.2.2.1
      omega
  · obtain ⟨a0, a1, a2, a3, a4, fi, a5, a6⟩ := hj j y (by omega) hy
    rw [e2 j e]
    refine ⟨?_, ?_, a2, by omega, ?_, fi, (a5.far (by simp; omega) _).far (by simp; omega) _, a6⟩
    · rw [if_neg (by omega), if_neg (by omega)]; exact a0
    · rw [if_neg (by omega), if_neg (by omega)]; exact a1
    · intro i hi
      rw [e2 i (by omega)]
      exact a4 i hi

set_option maxRecDepth 100000 in
theorem info_v : (Try.prog.info? 97).map (fun i => (i.zero, i.size, i.bytes)) = some (some (.agg #[.slice none 0 0, .int .i64 0]), 2, 32) := by kernel_rfl

def WrI (w : World) (B : Nat) (v : Value) (xs : List Int) : Prop := ∃ a c, v = .slice a xs.length c ∧ xs.length ≤ c ∧
  (xs ≠ [] → ∃ g f, a = some ⟨g, 0, none⟩ ∧ B ≤ g ∧ BlkF w g xs.length f ∧ ∀ j x, xs[j]? = some x → f j = .int .i64 x)
set_option maxRecDepth 100000 in
theorem WrI.wr {w : World} {B : Nat} {v : Value} {xs : List Int} (h : WrI w B v xs) : WrI w B v xs := h
set_option maxRecDepth 100000 in
theorem OwnI.wr {w : World} {B : Nat} {v : Value} {xs : List Int} (h : OwnI w B v xs) : WrI w B v xs := by
  obtain ⟨a, c, hv, hc, _, hR, ho⟩ := h.val
  refine ⟨a, c, hv, hc, fun hne => ?_⟩
  obtain ⟨g, ha, hg, hB⟩ := ho hne
  exact ⟨g, _, ha, hg, hB, fun j x hx => by simp [List.getD, hx]⟩
set_option maxRecDepth 100000 in
theorem WrI.fr {w : World} {B : Nat} {v : Value} {xs : List Int} (h : WrI w B v xs) : FrI w B v xs := by
  obtain ⟨a, c, hv, hc, ho⟩ := h
  by_cases hne : xs = []
  · subst hne; subst hv; exact FrI.nil _ _ _ _
  · obtain ⟨g, f, rfl, hg, hB, hf⟩ := ho hne
    rw [hv]
    exact hB.frI rfl hf hg hc
set_option maxRecDepth 100000 in
theorem WrI.ext {w w' : World} {B : Nat} {v : Value} {xs : List Int} (h : WrI w B v xs) (hw : Ext w w') : WrI w' B v xs := by
  obtain ⟨a, c, hv, hc, ho⟩ := h
  refine ⟨a, c, hv, hc, fun hne => ?_⟩
  obtain ⟨g, f, ha, hg, hB, hf⟩ := ho hne
  exact ⟨g, f, ha, hg, hB.ext hw, hf⟩
set_option maxRecDepth 100000 in
theorem WrI.base {w : World} {B B' : Nat} {v : Value} {xs : List Int} (h : WrI w B v xs) (hb : B' ≤ B) : WrI w B' v xs := by
  obtain ⟨a, c, hv, hc, ho⟩ := h
  refine ⟨a, c, hv, hc, fun hne => ?_⟩
  obtain ⟨g, f, ha, hg, hB, hf⟩ := ho hne
  exact ⟨g, f, ha, by omega, hB, hf⟩
set_option maxRecDepth 100000 in
theorem WrI.rng {w w' : World} {B lo hi : Nat} {v : Value} {xs : List Int} (h : WrI w B v xs) (hg : hi ≤ B) (hw : Rng lo hi w w') : WrI w' B v xs := by
  obtain ⟨a, c, hv, hc, ho⟩ := h
  refine ⟨a, c, hv, hc, fun hne => ?_⟩
  obtain ⟨g, f, ha, hg', hB, hf⟩ := ho hne
  exact ⟨g, f, ha, hg', ⟨Nat.lt_of_lt_of_le hB.lt hw.size, fun o => (World.frozen?_of_block (w := w) (hw.block g hB.lt (by omega))).trans (hB.fr o), fun o ho => hw.keep (.inr (show hi ≤ g by omega)) (hB.cell o ho)⟩, hf⟩
set_option maxRecDepth 100000 in
theorem WrI.nil (w : World) (B : Nat) (a : Option Addr) (c : Nat) : WrI w B (.slice a 0 c) [] := ⟨a, c, rfl, Nat.zero_le _, fun h => absurd rfl h⟩
set_option maxRecDepth 100000 in
theorem BlkF.wrI {w : World} {g n B c : Nat} {f : Nat → Value} {xs : List Int} (hB : BlkF w g n f) (hn : xs.length = n) (hf : ∀ (j : Nat) (x : Int), xs[j]? = some x → f j = .int .i64 x) (hg : B ≤ g) (hc : n ≤ c) : WrI w B (.slice (some ⟨g, 0, none⟩) n c) xs := by
  subst hn
  exact ⟨_, _, rfl, hc, fun _ => ⟨g, f, rfl, hg, hB, hf⟩⟩

end Go.Proofs.Ythiojkpoeejkaaa
