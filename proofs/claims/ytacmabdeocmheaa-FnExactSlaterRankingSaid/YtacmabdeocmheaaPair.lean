/- Who prefers whom: places, preferences, weights of voters, margins. -/
import Derived.Test.YtacmabdeocmheaaVotes
namespace Go.Proofs.Ytacmabdeocmheaa
open Go.RowKit

def placeI (xs : List Int) (a : Int) : Int := findI (fun y => a == y) xs
def prefB (xs : List Int) (a b : Int) : Bool := decide (0 ≤ placeI xs a) && (decide (0 ≤ placeI xs b) && decide (placeI xs a < placeI xs b))
set_option maxRecDepth 100000 in
theorem placeI_lt (xs : List Int) (a : Int) : -1 ≤ placeI xs a ∧ placeI xs a < xs.length + 1 := by
  unfold placeI findI
  cases h : xs.findIdx? (fun y => a == y) with
  | none => simp; omega
  | some i =>
    rw [List.findIdx?_eq_some_iff_getElem] at h
    obtain ⟨hk, _⟩ := h
    simp; omega

set_option maxRecDepth 100000 in
set_option maxHeartbeats 1000000 in
theorem place_spec (w : World) (a : Option Addr) (c : Nat) (xs : List Int) (x : Int) (hR : RdI w a xs) (hl : xs.length ≤ 2000000) :
    Calls Try.prog 236 #[.slice a xs.length c, .int .i64 x] w fun e w' => e = .returned (.int .i64 (placeI xs x)) ∧ Ext w w' := by
  go_enter Try.func236, Try.ntmps236
  go_wp2_with fail
  go_loopw [5, 6, 9] (fun _ _ i wr => ∃ k : Nat, k ≤ xs.length ∧ i = .int .i64 k ∧ Hid ((xs.take k).all (fun y => !(x == y)) = true) ∧ Ext w wr) (fun _ _ i _ => xs.length - (intOf i).toNat)
  case atStart => exact ⟨0, Nat.zero_le _, rfl, rfl, Ext.refl _⟩
  case round =>
    obtain ⟨k, hk, rfl, hall, hwr⟩ := hrel
    by_cases hlt : k < xs.length
    · obtain ⟨y, hy⟩ := at_of_lt hlt
      obtain ⟨b, off, rfl, c0⟩ := (hR.ext hwr).at_ hy
      have HY := hide hy
      clear hy
      have hxy : (x == y) = (y == x) := BEq.comm
      cases hp : (y == x)
      all_goals rw [hp] at hxy
      all_goals go_wp2
      · exact ⟨⟨k + 1, by omega, by go_num, (all_take HY.out hall.out).trans (by simp [hxy]), hwr⟩, by simp [intOf]; omega⟩
      · go_ret
        exact ⟨ret_int (findI_some HY.out hall.out hxy).symm, hwr⟩
    · go_wp2
      go_ret
      exact ⟨ret_int (findI_none (all_whole (by omega) hall.out)).symm, hwr⟩

set_option maxRecDepth 100000 in
set_option maxHeartbeats 1000000 in
theorem place_impl (w : World) (a : Option Addr) (c : Nat) (xs : List Int) (x : Int) (hR : RdI w a xs) (hl : xs.length ≤ 2000000) :
    Calls Try.prog 209 #[.slice a xs.length c, .int .i64 x] w fun e w' => e = .returned (.int .i64 (placeI xs x)) ∧ Ext w w' := by
  go_enter Try.func209, Try.ntmps209
  go_wp2_with (go_at_call 240; refine (indexI _ _ _ _ _ hR hl).mono ?_; rintro e w1 ⟨rfl, hw1⟩)
  go_ret
  exact ⟨rfl, hw1⟩

set_option maxRecDepth 100000 in
set_option maxHeartbeats 1000000 in
theorem pref_spec (w : World) (a : Option Addr) (c : Nat) (xs : List Int) (x y : Int) (hR : RdI w a xs) (hl : xs.length ≤ 2000000) :
    Calls Try.prog 266 #[.slice a xs.length c, .int .i64 x, .int .i64 y] w fun e w' => e = .returned (.bool (prefB xs x y)) ∧ Ext w w' := by
  by_cases h1 : 0 ≤ placeI xs x <;> by_cases h2 : 0 ≤ placeI xs y <;> by_cases h3 : placeI xs x < placeI xs y
  all_goals
    go_enter Try.func266, Try.ntmps266
    go_wp2_with (go_at_call 236; refine (place_spec _ _ _ _ _ (hR.ext (by repeat (first | exact Ext.refl _ | assumption | refine Ext.alloc ?_ _ | refine Ext.drew ?_ | refine Ext.trans ?_ (by assumption)))) hl).mono ?_; rintro e w1 ⟨rfl, hw1⟩)
    all_goals go_ret
    all_goals exact ⟨ret_bool (by simp [prefB, h1, h2, h3]), (by repeat (first | exact Ext.refl _ | assumption | refine Ext.alloc ?_ _ | refine Ext.drew ?_ | refine Ext.trans ?_ (by assumption)))⟩

set_option maxRecDepth 100000 in
set_option maxHeartbeats 1000000 in
theorem pref_impl (w : World) (a : Option Addr) (c : Nat) (xs : List Int) (x y : Int) (hR : RdI w a xs) (hl : xs.length ≤ 2000000) :
    Calls Try.prog 107 #[.slice a xs.length c, .int .i64 x, .int .i64 y] w fun e w' => e = .returned (.bool (prefB xs x y)) ∧ Ext w w' := by
  by_cases h1 : 0 ≤ placeI xs x <;> by_cases h2 : 0 ≤ placeI xs y <;> by_cases h3 : placeI xs x < placeI xs y
  all_goals
    go_enter Try.func107, Try.ntmps107
    go_wp2_with (go_at_call 209; refine (place_impl _ _ _ _ _ (hR.ext (by repeat (first | exact Ext.refl _ | assumption | refine Ext.alloc ?_ _ | refine Ext.drew ?_ | refine Ext.trans ?_ (by assumption)))) hl).mono ?_; rintro e w1 ⟨rfl, hw1⟩)
    all_goals go_ret
    all_goals exact ⟨ret_bool (by simp [prefB, h1, h2, h3]), (by repeat (first | exact Ext.refl _ | assumption | refine Ext.alloc ?_ _ | refine Ext.drew ?_ | refine Ext.trans ?_ (by assumption)))⟩

/-- The weight of the votes whose ranking has a property. -/
def sumV (p : List Int → Bool) (vs : List Vt) : Int := ((vs.filter (fun x => p x.1)).map Prod.snd).sum
set_option maxRecDepth 100000 in
theorem sumV_at {p : List Int → Bool} {vs : List Vt} {k : Nat} {x : Vt} (hx : vs[k]? = some x) : sumV p (vs.take (k + 1)) = sumV p (vs.take k) + if p x.1 then x.2 else 0 := by
  rw [take_at hx]
  unfold sumV
  rw [List.filter_append, List.map_append, List.sum_append]
  cases h : p x.1 <;> simp [h]
def SmallV (sz : Int) (vs : List Vt) : Prop := vs.length ≤ 24 ∧ ∀ x ∈ vs, rkOk sz x.1 = true ∧ 1 ≤ x.2 ∧ x.2 ≤ 1000
set_option maxRecDepth 100000 in
theorem prof_size {sz : Int} {vs : List Vt} (h : profOk sz vs = true) : 1 ≤ sz ∧ sz ≤ 5 := by
  simp only [profOk, Bool.and_eq_true] at h; exact inR_iff.1 h.1
set_option maxRecDepth 100000 in
theorem prof_small {sz : Int} {vs : List Vt} (h : profOk sz vs = true) : SmallV sz vs := by
  simp only [profOk, Bool.and_eq_true, decide_eq_true_eq] at h
  refine ⟨h.2.1, fun x hx => ?_⟩
  have h2 := List.all_eq_true.1 h.2.2 x hx
  simp only [vtOk, Bool.and_eq_true] at h2
  have h4 := inR_iff.1 h2.2
  exact ⟨h2.1, h4.1, h4.2⟩
set_option maxRecDepth 100000 in
theorem rk_len {m : Int} {xs : List Int} (h : rkOk m xs = true) : (xs.length : Int) = m ∧ xs.length ≤ 5 := by
  simp only [rkOk, Bool.and_eq_true, decide_eq_true_eq] at h
  have := inR_iff.1 h.1
  omega
set_option maxRecDepth 100000 in
theorem rk_mem {m : Int} {xs : List Int} (h : rkOk m xs = true) {x : Int} (hx : x ∈ xs) : 0 ≤ x ∧ x ≤ m - 1 := by
  simp only [rkOk, Bool.and_eq_true, decide_eq_true_eq] at h
  exact inR_iff.1 (List.all_eq_true.1 h.2.2.1 x hx)
set_option maxRecDepth 100000 in
theorem rk_nodup {m : Int} {xs : List Int} (h : rkOk m xs = true) : xs.Nodup := by
  simp only [rkOk, Bool.and_eq_true, decide_eq_true_eq] at h
  exact h.2.2.2
set_option maxRecDepth 100000 in
theorem sumV_bd {p : List Int → Bool} {sz : Int} {vs : List Vt} (h : SmallV sz vs) : ∀ k : Nat, k ≤ vs.length → 0 ≤ sumV p (vs.take k) ∧ sumV p (vs.take k) ≤ 1000 * k
  | 0, _ => by simp [sumV]
  | k + 1, hk => by
    obtain ⟨x, hx⟩ := at_of_lt (xs := vs) (k := k) (by omega)
    have h1 := sumV_bd h k (by omega) (p := p)
    have h2 := h.2 x (List.mem_of_getElem? hx)
    rw [sumV_at hx]
    split <;> omega
set_option maxRecDepth 100000 in
theorem sumV_bd' {p : List Int → Bool} {sz : Int} {vs : List Vt} (h : SmallV sz vs) : 0 ≤ sumV p vs ∧ sumV p vs ≤ 24000 := by
  have h1 := sumV_bd h vs.length (Nat.le_refl _) (p := p)
  rw [List.take_length] at h1
  have := h.1
  omega
def pairV (vs : List Vt) (a b : Int) : Int := sumV (fun r => prefB r a b) vs
def marginV (vs : List Vt) (a b : Int) : Int := pairV vs a b - pairV vs b a
def beatsV (vs : List Vt) (a b : Int) : Bool := decide (pairV vs b a < pairV vs a b)

set_option maxRecDepth 100000 in
set_option maxHeartbeats 1000000 in
theorem votersV (K : Nat) (fst cap : Array Value) (p : List Int → Bool) (w : World) (sz : Int) (a : Option Addr) (c : Nat) (vs : List Vt) (hR : RdV w a vs) (hS : SmallV sz vs) (hK : Enters Try.prog K)
    (hf : ∀ (x : Vt) (a' : Option Addr) (c' : Nat) (w' : World), x ∈ vs → Ext w w' → RdI w' a' x.1 → x.1.length ≤ c' → Calls Try.prog K (fst.push (.slice a' x.1.length c') ++ cap) w' fun e w'' => e = .returned (.bool (p x.1)) ∧ Ext w' w'') :
    Calls Try.prog 172 #[.agg #[.int .i64 sz, .slice a vs.length c], .func (.func K) fst cap] w fun e w' => e = .returned (.int .i64 (sumV p vs)) ∧ Ext w w' := by
  unfold Enters at hK
  have HF := hide hf
  clear hf
  have HS := hide hS
  have hl := hS.1
  clear hS
  go_enter Try.func172, Try.ntmps172
  go_wp2_with fail
  go_loopw [5, 7, 11] (fun s _ i wr => ∃ k : Nat, k ≤ vs.length ∧ i = .int .i64 k ∧ s = .int .i64 (sumV p (vs.take k)) ∧ Ext w wr) (fun _ _ i _ => vs.length - (intOf i).toNat)
  case atStart => exact ⟨0, Nat.zero_le _, rfl, rfl, (by repeat (first | exact Ext.refl _ | assumption | refine Ext.alloc ?_ _ | refine Ext.drew ?_ | refine Ext.trans ?_ (by assumption)))⟩
  case round =>
    obtain ⟨k, hk, rfl, rfl, hwr⟩ := hrel
    obtain ⟨b1, b2⟩ := sumV_bd HS.out k hk (p := p)
    by_cases hlt : k < vs.length
    · obtain ⟨x, hx⟩ := at_of_lt hlt
      obtain ⟨b, off, a', c', rfl, c0, c1, hc', hRx⟩ := (hR.ext hwr).at_ hx
      obtain ⟨_, x1, x2⟩ := HS.out.2 x (List.mem_of_getElem? hx)
      have HX := hide hx
      clear hx
      cases hp : p x.1
      all_goals
        go_wp2_with fail
        refine (HF.out x a' c' _ (List.mem_of_getElem? HX.out) (by repeat (first | exact Ext.refl _ | assumption | refine Ext.alloc ?_ _ | refine Ext.drew ?_ | refine Ext.trans ?_ (by assumption))) (hRx.ext (by repeat (first | exact Ext.refl _ | assumption | refine Ext.alloc ?_ _ | refine Ext.drew ?_ | refine Ext.trans ?_ (by assumption)))) hc').mono ?_
        rintro e w1 ⟨rfl, hw1⟩
        have e1 := hw1.keep (new1 wr _ _ _ _)
        go_wp2
      · exact ⟨⟨k + 1, by omega, by go_num, by rw [sumV_at HX.out, hp]; simp, (by repeat (first | exact Ext.refl _ | assumption | refine Ext.alloc ?_ _ | refine Ext.drew ?_ | refine Ext.trans ?_ (by assumption)))⟩, by simp [intOf]; omega⟩
      · exact ⟨⟨k + 1, by omega, by go_num, by rw [sumV_at HX.out, hp]; simp, (by repeat (first | exact Ext.refl _ | assumption | refine Ext.alloc ?_ _ | refine Ext.drew ?_ | refine Ext.trans ?_ (by assumption)))⟩, by simp [intOf]; omega⟩
    · go_wp2
      go_ret
      exact ⟨ret_int (by rw [List.take_of_length_le (by omega)]), hwr⟩

end Go.Proofs.Ytacmabdeocmheaa
