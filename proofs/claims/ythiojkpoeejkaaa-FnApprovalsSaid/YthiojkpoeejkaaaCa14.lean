/- Who prefers whom: places, preferences, weights of voters, margins. Pair counts, margins and beats on both sides. How many rank a candidate behind, or before, all others that are left. Pair counts, margins, beats and covering as the two sides give them. -/
import Derived.Test.YthiojkpoeejkaaaCa2
import Derived.Test.YthiojkpoeejkaaaCa13
import Derived.Test.YthiojkpoeejkaaaCa0
namespace Go.Proofs.Ythiojkpoeejkaaa
open Go.RowKit

def placeI (xs : List Int) (a : Int) : Int := findI (fun y => a == y) xs
def prefB (xs : List Int) (a b : Int) : Bool := decide (0 ≤ placeI xs a) && (decide (0 ≤ placeI xs b) && decide (placeI xs a < placeI xs b))
set_option maxRecDepth 100000 in
theorem placeI_lt (xs : List Int) (a : Int) : -1 ≤ placeI xs a ∧ placeI xs a < xs.length + 1 := by
  unfold placeI findI
  cases h : xs.findIdx? (fun y => a == y) with
  | none => simp; omega
  | some i =>
    rw [List.findIdx?_eq_some_iff_getElem] at h
    obtain ⟨hk, _⟩ := h
    simp; omega

set_option maxRecDepth 100000 in
set_option maxHeartbeats 1000000 in
theorem place_spec (w : World) (a : Option Addr) (c : Nat) (xs : List Int) (x : Int) (hR : RdI w a xs) (hl : xs.length ≤ 2000000) :
    Calls Try.prog 218 #[.slice a xs.length c, .int .i64 x] w fun e w' => e = .returned (.int .i64 (placeI xs x)) ∧ Ext w w' := by
  go_enter Try.func218, Try.ntmps218
  go_wp2_with fail
  go_loopw [5, 6, 9] (fun _ _ i wr => ∃ k : Nat, k ≤ xs.length ∧ i = .int .i64 k ∧ Hid ((xs.take k).all (fun y => !(x == y)) = true) ∧ Ext w wr) (fun _ _ i _ => xs.length - (intOf i).toNat)
  case atStart => exact ⟨0, Nat.zero_le _, rfl, rfl, Ext.refl _⟩
  case round =>
    obtain ⟨k, hk, rfl, hall, hwr⟩ := hrel
    by_cases hlt : k < xs.length
    · obtain ⟨y, hy⟩ := at_of_lt hlt
      obtain ⟨b, off, rfl, c0⟩ := (hR.ext hwr).at_ hy
      have HY := hide hy
      clear hy
      have hxy : (x == y) = (y == x) := BEq.comm
      cases hp : (y == x)
      all_goals rw [hp] at hxy
      all_goals go_wp2
      · exact ⟨⟨k + 1, by omega, by go_num, (all_take HY.out hall.out).trans (by simp [hxy]), hwr⟩, by simp [intOf]; omega⟩
      · go_ret
        exact ⟨ret_int (findI_some HY.out hall.out hxy).symm, hwr⟩
    · go_wp2
      go_ret
      exact ⟨ret_int (findI_none (all_whole (by omega) hall.out)).symm, hwr⟩

set_option maxRecDepth 100000 in
set_option maxHeartbeats 1000000 in
theorem place_impl (w : World) (a : Option Addr) (c : Nat) (xs : List Int) (x : Int) (hR : RdI w a xs) (hl : xs.length ≤ 2000000) :
    Calls Try.prog 155 #[.slice a xs.length c, .int .i64 x] w fun e w' => e = .returned (.int .i64 (placeI xs x)) ∧ Ext w w' := by
  go_enter Try.func155, Try.ntmps155
  go_wp2_with (go_at_call 181; refine (indexI _ _ _ _ _ hR hl).mono ?_; rintro e w1 ⟨rfl, hw1⟩)
  go_ret
  exact ⟨rfl, hw1⟩

set_option maxRecDepth 100000 in
set_option maxHeartbeats 1000000 in
theorem pref_impl (w : World) (a : Option Addr) (c : Nat) (xs : List Int) (x y : Int) (hR : RdI w a xs) (hl : xs.length ≤ 2000000) :
    Calls Try.prog 81 #[.slice a xs.length c, .int .i64 x, .int .i64 y] w fun e w' => e = .returned (.bool (prefB xs x y)) ∧ Ext w w' := by
  by_cases h1 : 0 ≤ placeI xs x <;> by_cases h2 : 0 ≤ placeI xs y <;> by_cases h3 : placeI xs x < placeI xs y
  all_goals
    go_enter Try.func81, Try.ntmps81
    go_wp2_with (go_at_call 155; refine (place_impl _ _ _ _ _ (hR.ext (by repeat (first | exact Ext.refl _ | assumption | refine Ext.alloc ?_ _ | refine Ext.drew ?_ | refine Ext.trans ?_ (by assumption)))) hl).mono ?_; rintro e w1 ⟨rfl, hw1⟩)
    all_goals go_ret
    all_goals exact ⟨ret_bool (by simp [prefB, h1, h2, h3]), (by repeat (first | exact Ext.refl _ | assumption | refine Ext.alloc ?_ _ | refine Ext.drew ?_ | refine Ext.trans ?_ (by assumption)))⟩

/-- The weight of the votes whose ranking has a property. -/
def sumV (p : List Int → Bool) (vs : List Vt) : Int := ((vs.filter (fun x => p x.1)).map Prod.snd).sum
set_option maxRecDepth 100000 in
theorem sumV_at {p : List Int → Bool} {vs : List Vt} {k : Nat} {x : Vt} (hx : vs[k]? = some x) : sumV p (vs.take (k + 1)) = sumV p (vs.take k) + if p x.1 then x.2 else 0 := by
  rw [take_at hx]
  unfold sumV
  rw [List.filter_append, List.map_append, List.sum_append]
  cases h : p x.1 <;> simp [h]
def SmallV (sz : Int) (vs : List Vt) : Prop := vs.length ≤ 24 ∧ ∀ x ∈ vs, rkOk sz x.1 = true ∧ 1 ≤ x.2 ∧ x.2 ≤ 1000
set_option maxRecDepth 100000 in
theorem prof_size {sz : Int} {vs : List Vt} (h : profOk sz vs = true) : 1 ≤ sz ∧ sz ≤ 5 := by
  simp only [profOk, Bool.and_eq_true] at h; exact inR_iff.1 h.1
set_option maxRecDepth 100000 in
theorem prof_small {sz : Int} {vs : List Vt} (h : profOk sz vs = true) : SmallV sz vs := by
  simp only [profOk, Bool.and_eq_true, decide_eq_true_eq] at h
  refine ⟨h.2.1, fun x hx => ?_⟩
  have h2 := List.all_eq_true.1 h.2.2 x hx
  simp only [vtOk, Bool.and_eq_true] at h2
  have h4 := inR_iff.1 h2.2
  exact ⟨h2.1, h4.1, h4.2⟩
set_option maxRecDepth 100000 in
theorem rk_len {m : Int} {xs : List Int} (h : rkOk m xs = true) : (xs.length : Int) = m ∧ xs.length ≤ 5 := by
  simp only [rkOk, Bool.and_eq_true, decide_eq_true_eq] at h
  have := inR_iff.1 h.1
  omega
set_option maxRecDepth 100000 in
theorem rk_mem {m : Int} {xs : List Int} (h : rkOk m xs = true) {x : Int} (hx : x ∈ xs) : 0 ≤ x ∧ x ≤ m - 1 := by
  simp only [rkOk, Bool.and_eq_true, decide_eq_true_eq] at h
  exact inR_iff.1 (List.all_eq_true.1 h.2.2.1 x hx)
set_option maxRecDepth 100000 in
theorem rk_nodup {m : Int} {xs : List Int} (h : rkOk m xs = true) : xs.Nodup := by
  simp only [rkOk, Bool.and_eq_true, decide_eq_true_eq] at h
  exact h.2.2.2
set_option maxRecDepth 100000 in
theorem sumV_bd {p : List Int → Bool} {sz : Int} {vs : List Vt} (h : SmallV sz vs) : ∀ k : Nat, k ≤ vs.length → 0 ≤ sumV p (vs.take k) ∧ sumV p (vs.take k) ≤ 1000 * k
  | 0, _ => by simp [sumV]
  | k + 1, hk => by
    obtain ⟨x, hx⟩ := at_of_lt (xs := vs) (k := k) (by omega)
    have h1 := sumV_bd h k (by omega) (p := p)
    have h2 := h.2 x (List.mem_of_getElem? hx)
    rw [sumV_at hx]
    split <;> omega
set_option maxRecDepth 100000 in
theorem sumV_bd' {p : List Int → Bool} {sz : Int} {vs : List Vt} (h : SmallV sz vs) : 0 ≤ sumV p vs ∧ sumV p vs ≤ 24000 := by
  have h1 := sumV_bd h vs.length (Nat.le_refl _) (p := p)
  rw [List.take_length] at h1
  have := h.1
  omega
def pairV (vs : List Vt) (a b : Int) : Int := sumV (fun r => prefB r a b) vs
def marginV (vs : List Vt) (a b : Int) : Int := pairV vs a b - pairV vs b a
def beatsV (vs : List Vt) (a b : Int) : Bool := decide (pairV vs b a < pairV vs a b)

set_option maxRecDepth 100000 in
set_option maxHeartbeats 1000000 in
theorem votersV (K : Nat) (fst cap : Array Value) (p : List Int → Bool) (w : World) (sz : Int) (a : Option Addr) (c : Nat) (vs : List Vt) (hR : RdV w a vs) (hS : SmallV sz vs) (hK : Enters Try.prog K)
    (hf : ∀ (x : Vt) (a' : Option Addr) (c' : Nat) (w' : World), x ∈ vs → Ext w w' → RdI w' a' x.1 → x.1.length ≤ c' → Calls Try.prog K (fst.push (.slice a' x.1.length c') ++ cap) w' fun e w'' => e = .returned (.bool (p x.1)) ∧ Ext w' w'') :
    Calls Try.prog 109 #[.agg #[.int .i64 sz, .slice a vs.length c], .func (.func K) fst cap] w fun e w' => e = .returned (.int .i64 (sumV p vs)) ∧ Ext w w' := by
  unfold Enters at hK
  have HF := hide hf
  clear hf
  have HS := hide hS
  have hl := hS.1
  clear hS
  go_enter Try.func109, Try.ntmps109
  go_wp2_with fail
  go_loopw [5, 7, 11] (fun s _ i wr => ∃ k : Nat, k ≤ vs.length ∧ i = .int .i64 k ∧ s = .int .i64 (sumV p (vs.take k)) ∧ Ext w wr) (fun _ _ i _ => vs.length - (intOf i).toNat)
  case atStart => exact ⟨0, Nat.zero_le _, rfl, rfl, (by repeat (first | exact Ext.refl _ | assumption | refine Ext.alloc ?_ _ | refine Ext.drew ?_ | refine Ext.trans ?_ (by assumption)))⟩
  case round =>
    obtain ⟨k, hk, rfl, rfl, hwr⟩ := hrel
    obtain ⟨b1, b2⟩ := sumV_bd HS.out k hk (p := p)
    by_cases hlt : k < vs.length
    · obtain ⟨x, hx⟩ := at_of_lt hlt
      obtain ⟨b, off, a', c', rfl, c0, c1, hc', hRx⟩ := (hR.ext hwr).at_ hx
      obtain ⟨_, x1, x2⟩ := HS.out.2 x (List.mem_of_getElem? hx)
      have HX := hide hx
      clear hx
      cases hp : p x.1
      all_goals
        go_wp2_with fail
        refine (HF.out x a' c' _ (List.mem_of_getElem? HX.out) (by repeat (first | exact Ext.refl _ | assumption | refine Ext.alloc ?_ _ | refine Ext.drew ?_ | refine Ext.trans ?_ (by assumption))) (hRx.ext (by repeat (first | exact Ext.refl _ | assumption | refine Ext.alloc ?_ _ | refine Ext.drew ?_ | refine Ext.trans ?_ (by assumption)))) hc').mono ?_
        rintro e w1 ⟨rfl, hw1⟩
        have e1 := hw1.keep (new1 wr _ _ _ _)
        go_wp2
      · exact ⟨⟨k + 1, by omega, by go_num, by rw [sumV_at HX.out, hp]; simp, (by repeat (first | exact Ext.refl _ | assumption | refine Ext.alloc ?_ _ | refine Ext.drew ?_ | refine Ext.trans ?_ (by assumption)))⟩, by simp [intOf]; omega⟩
      · exact ⟨⟨k + 1, by omega, by go_num, by rw [sumV_at HX.out, hp]; simp, (by repeat (first | exact Ext.refl _ | assumption | refine Ext.alloc ?_ _ | refine Ext.drew ?_ | refine Ext.trans ?_ (by assumption)))⟩, by simp [intOf]; omega⟩
    · go_wp2
      go_ret
      exact ⟨ret_int (by rw [List.take_of_length_le (by omega)]), hwr⟩

def hasB (sz a : Int) : Bool := inR a 0 (sz - 1)

set_option maxRecDepth 100000 in
set_option maxHeartbeats 1000000 in
theorem cand_impl (w : World) (sz : Int) (a : Option Addr) (n c : Nat) (x : Int) (h1 : 1 ≤ sz) (h2 : sz ≤ 5) :
    Calls Try.prog 120 #[.agg #[.int .i64 sz, .slice a n c], .int .i64 x] w fun e w' => e = .returned (.bool (hasB sz x)) ∧ Ext w w' := by
  go_enter Try.func120, Try.ntmps120
  go_wp2_with (go_at_call 94; refine (in_impl _ _ _ _).mono ?_; rintro e w1 ⟨rfl, hw1⟩)
  go_ret
  exact ⟨rfl, (by repeat (first | exact Ext.refl _ | assumption | refine Ext.alloc ?_ _ | refine Ext.drew ?_ | refine Ext.trans ?_ (by assumption)))⟩

set_option maxRecDepth 100000 in
set_option maxHeartbeats 1000000 in
theorem pairF (w : World) (g1 g2 : Nat) (a : Option Addr) (c : Nat) (xs : List Int) (x y : Int) (h1 : w.cell? ⟨g1, 0, none⟩ = some (.int .i64 x)) (h2 : w.cell? ⟨g2, 0, none⟩ = some (.int .i64 y)) (hR : RdI w a xs) (hl : xs.length ≤ 2000000) :
    Calls Try.prog 192 #[.slice a xs.length c, .pointer (some ⟨g1, 0, none⟩), .pointer (some ⟨g2, 0, none⟩)] w fun e w' => e = .returned (.bool (prefB xs x y)) ∧ Ext w w' := by
  go_enter Try.func192, Try.ntmps192
  go_wp2_with (go_at_call 81; refine (pref_impl _ _ _ _ _ _ hR hl).mono ?_; rintro e w1 ⟨rfl, hw1⟩)
  go_ret
  exact ⟨rfl, (by repeat (first | exact Ext.refl _ | assumption | refine Ext.alloc ?_ _ | refine Ext.drew ?_ | refine Ext.trans ?_ (by assumption)))⟩

set_option maxRecDepth 100000 in
set_option maxHeartbeats 1000000 in
theorem pairI_impl (w : World) (sz : Int) (a : Option Addr) (c : Nat) (vs : List Vt) (x y : Int) (hR : RdV w a vs) (hS : SmallV sz vs) :
    Calls Try.prog 121 #[.agg #[.int .i64 sz, .slice a vs.length c], .int .i64 x, .int .i64 y] w fun e w' => e = .returned (.int .i64 (pairV vs x y)) ∧ Ext w w' := by
  have HS := hide hS
  clear hS
  go_enter Try.func121, Try.ntmps121
  go_wp2_with fail
  refine (votersV 192 _ _ (fun r => prefB r x y) _ sz _ _ vs (hR.ext (by repeat (first | exact Ext.refl _ | assumption | refine Ext.alloc ?_ _ | refine Ext.drew ?_ | refine Ext.trans ?_ (by assumption)))) HS.out Try.call192 ?_).mono ?_
  · intro v a' c' w' hv hw' hRv hc'
    exact pairF w' _ _ a' c' v.1 x y (hw'.keep (by go_simp)) (hw'.keep (by go_simp)) hRv (by have := (rk_len (HS.out.2 v hv).1).2; omega)
  rintro e w1 ⟨rfl, hw1⟩
  go_wp2
  go_ret
  exact ⟨rfl, (by repeat (first | exact Ext.refl _ | assumption | refine Ext.alloc ?_ _ | refine Ext.drew ?_ | refine Ext.trans ?_ (by assumption)))⟩

def lsP (left : List Int) (x : Int) (r : List Int) : Bool := !(left.any (fun b => prefB r x b))
def fsP (left : List Int) (x : Int) (r : List Int) : Bool := !(left.any (fun b => prefB r b x))

set_option maxRecDepth 100000 in
set_option maxHeartbeats 1000000 in
theorem lastIn (w : World) (g1 g2 : Nat) (a : Option Addr) (c : Nat) (xs : List Int) (x b : Int) (h1 : w.cell? ⟨g1, 0, none⟩ = some (.slice a xs.length c)) (h2 : w.cell? ⟨g2, 0, none⟩ = some (.int .i64 x)) (hR : RdI w a xs) (hl : xs.length ≤ 2000000) :
    Calls Try.prog 200 #[.int .i64 b, .pointer (some ⟨g1, 0, none⟩), .pointer (some ⟨g2, 0, none⟩)] w fun e w' => e = .returned (.bool (prefB xs x b)) ∧ Ext w w' := by
  go_enter Try.func200, Try.ntmps200
  go_wp2_with (go_at_call 81; refine (pref_impl _ _ _ _ _ _ (hR.ext (by repeat (first | exact Ext.refl _ | assumption | refine Ext.alloc ?_ _ | refine Ext.drew ?_ | refine Ext.trans ?_ (by assumption)))) hl).mono ?_; rintro e w1 ⟨rfl, hw1⟩)
  go_ret
  exact ⟨rfl, (by repeat (first | exact Ext.refl _ | assumption | refine Ext.alloc ?_ _ | refine Ext.drew ?_ | refine Ext.trans ?_ (by assumption)))⟩

set_option maxRecDepth 100000 in
set_option maxHeartbeats 1000000 in
theorem lastCl (w : World) (gl ga : Nat) (al a : Option Addr) (cl c : Nat) (left xs : List Int) (x : Int) (h1 : w.cell? ⟨gl, 0, none⟩ = some (.slice al left.length cl)) (h2 : w.cell? ⟨ga, 0, none⟩ = some (.int .i64 x)) (hL : RdI w al left) (hR : RdI w a xs) (hl : xs.length ≤ 2000000) (hll : left.length ≤ 2000000) :
    Calls Try.prog 199 #[.slice a xs.length c, .pointer (some ⟨gl, 0, none⟩), .pointer (some ⟨ga, 0, none⟩)] w fun e w' => e = .returned (.bool (lsP left x xs)) ∧ Ext w w' := by
  have p0 := new0 w (.slice a xs.length c) [] 29
  have h1' := Ext.keep (Ext.new w (.cells #[.slice a xs.length c] 29)) h1
  have h2' := Ext.keep (Ext.new w (.cells #[.slice a xs.length c] 29)) h2
  go_enter Try.func199, Try.ntmps199
  go_wp2_with fail
  refine (containsFuncI 200 #[] #[.pointer (some ⟨w.heap.size, 0, none⟩), .pointer (some ⟨ga, 0, none⟩)] (fun b => prefB xs x b) _ al cl left (hL.ext (by repeat (first | exact Ext.refl _ | assumption | refine Ext.alloc ?_ _ | refine Ext.drew ?_ | refine Ext.trans ?_ (by assumption)))) hll Try.call200
    (fun b w' _ hw' => lastIn w' _ _ a c xs x b (hw'.keep p0) (hw'.keep h2') (hR.ext ((Ext.new _ _).trans hw')) hl)).mono ?_
  rintro e w1 ⟨rfl, hw1⟩
  go_wp2
  go_ret
  exact ⟨rfl, (by repeat (first | exact Ext.refl _ | assumption | refine Ext.alloc ?_ _ | refine Ext.drew ?_ | refine Ext.trans ?_ (by assumption)))⟩

set_option maxRecDepth 100000 in
set_option maxHeartbeats 1000000 in
theorem last_impl (w : World) (sz : Int) (a al : Option Addr) (c cl : Nat) (vs : List Vt) (left : List Int) (x : Int) (hR : RdV w a vs) (hS : SmallV sz vs) (hL : RdI w al left) (hll : left.length ≤ 2000000) :
    Calls Try.prog 154 #[.agg #[.int .i64 sz, .slice a vs.length c], .slice al left.length cl, .int .i64 x] w fun e w' => e = .returned (.int .i64 (sumV (lsP left x) vs)) ∧ Ext w w' := by
  have HS := hide hS
  clear hS
  go_enter Try.func154, Try.ntmps154
  go_wp2_with fail
  refine (votersV 199 _ _ (lsP left x) _ sz _ _ vs (hR.ext (by repeat (first | exact Ext.refl _ | assumption | refine Ext.alloc ?_ _ | refine Ext.drew ?_ | refine Ext.trans ?_ (by assumption)))) HS.out Try.call199 ?_).mono ?_
  · intro v a' c' w' hv hw' hRv hc'
    exact lastCl w' _ _ al a' cl c' left v.1 x (hw'.keep (by go_simp)) (hw'.keep (by go_simp)) (hL.ext ((show Ext w _ from (by repeat (first | exact Ext.refl _ | assumption | refine Ext.alloc ?_ _ | refine Ext.drew ?_ | refine Ext.trans ?_ (by assumption)))).trans hw')) hRv (by have := (rk_len (HS.out.2 v hv).1).2; omega) hll
  rintro e w1 ⟨rfl, hw1⟩
  go_wp2
  go_ret
  exact ⟨rfl, (by repeat (first | exact Ext.refl _ | assumption | refine Ext.alloc ?_ _ | refine Ext.drew ?_ | refine Ext.trans ?_ (by assumption)))⟩

set_option maxRecDepth 100000 in
set_option maxHeartbeats 1000000 in
theorem firstIn (w : World) (g1 g2 : Nat) (a : Option Addr) (c : Nat) (xs : List Int) (x b : Int) (h1 : w.cell? ⟨g1, 0, none⟩ = some (.slice a xs.length c)) (h2 : w.cell? ⟨g2, 0, none⟩ = some (.int .i64 x)) (hR : RdI w a xs) (hl : xs.length ≤ 2000000) :
    Calls Try.prog 202 #[.int .i64 b, .pointer (some ⟨g1, 0, none⟩), .pointer (some ⟨g2, 0, none⟩)] w fun e w' => e = .returned (.bool (prefB xs b x)) ∧ Ext w w' := by
  go_enter Try.func202, Try.ntmps202
  go_wp2_with (go_at_call 81; refine (pref_impl _ _ _ _ _ _ (hR.ext (by repeat (first | exact Ext.refl _ | assumption | refine Ext.alloc ?_ _ | refine Ext.drew ?_ | refine Ext.trans ?_ (by assumption)))) hl).mono ?_; rintro e w1 ⟨rfl, hw1⟩)
  go_ret
  exact ⟨rfl, (by repeat (first | exact Ext.refl _ | assumption | refine Ext.alloc ?_ _ | refine Ext.drew ?_ | refine Ext.trans ?_ (by assumption)))⟩

set_option maxRecDepth 100000 in
set_option maxHeartbeats 1000000 in
theorem firstCl (w : World) (gl ga : Nat) (al a : Option Addr) (cl c : Nat) (left xs : List Int) (x : Int) (h1 : w.cell? ⟨gl, 0, none⟩ = some (.slice al left.length cl)) (h2 : w.cell? ⟨ga, 0, none⟩ = some (.int .i64 x)) (hL : RdI w al left) (hR : RdI w a xs) (hl : xs.length ≤ 2000000) (hll : left.length ≤ 2000000) :
    Calls Try.prog 201 #[.slice a xs.length c, .pointer (some ⟨gl, 0, none⟩), .pointer (some ⟨ga, 0, none⟩)] w fun e w' => e = .returned (.bool (fsP left x xs)) ∧ Ext w w' := by
  have p0 := new0 w (.slice a xs.length c) [] 29
  have h1' := Ext.keep (Ext.new w (.cells #[.slice a xs.length c] 29)) h1
  have h2' := Ext.keep (Ext.new w (.cells #[.slice a xs.length c] 29)) h2
  go_enter Try.func201, Try.ntmps201
  go_wp2_with fail
  refine (containsFuncI 202 #[] #[.pointer (some ⟨w.heap.size, 0, none⟩), .pointer (some ⟨ga, 0, none⟩)] (fun b => prefB xs b x) _ al cl left (hL.ext (by repeat (first | exact Ext.refl _ | assumption | refine Ext.alloc ?_ _ | refine Ext.drew ?_ | refine Ext.trans ?_ (by assumption)))) hll Try.call202
    (fun b w' _ hw' => firstIn w' _ _ a c xs x b (hw'.keep p0) (hw'.keep h2') (hR.ext ((Ext.new _ _).trans hw')) hl)).mono ?_
  rintro e w1 ⟨rfl, hw1⟩
  go_wp2
  go_ret
  exact ⟨rfl, (by repeat (first | exact Ext.refl _ | assumption | refine Ext.alloc ?_ _ | refine Ext.drew ?_ | refine Ext.trans ?_ (by assumption)))⟩

set_option maxRecDepth 100000 in
set_option maxHeartbeats 1000000 in
theorem first_impl (w : World) (sz : Int) (a al : Option Addr) (c cl : Nat) (vs : List Vt) (left : List Int) (x : Int) (hR : RdV w a vs) (hS : SmallV sz vs) (hL : RdI w al left) (hll : left.length ≤ 2000000) :
    Calls Try.prog 160 #[.agg #[.int .i64 sz, .slice a vs.length c], .slice al left.length cl, .int .i64 x] w fun e w' => e = .returned (.int .i64 (sumV (fsP left x) vs)) ∧ Ext w w' := by
  have HS := hide hS
  clear hS
  go_enter Try.func160, Try.ntmps160
  go_wp2_with fail
  refine (votersV 201 _ _ (fsP left x) _ sz _ _ vs (hR.ext (by repeat (first | exact Ext.refl _ | assumption | refine Ext.alloc ?_ _ | refine Ext.drew ?_ | refine Ext.trans ?_ (by assumption)))) HS.out Try.call201 ?_).mono ?_
  · intro v a' c' w' hv hw' hRv hc'
    exact firstCl w' _ _ al a' cl c' left v.1 x (hw'.keep (by go_simp)) (hw'.keep (by go_simp)) (hL.ext ((show Ext w _ from (by repeat (first | exact Ext.refl _ | assumption | refine Ext.alloc ?_ _ | refine Ext.drew ?_ | refine Ext.trans ?_ (by assumption)))).trans hw')) hRv (by have := (rk_len (HS.out.2 v hv).1).2; omega) hll
  rintro e w1 ⟨rfl, hw1⟩
  go_wp2
  go_ret
  exact ⟨rfl, (by repeat (first | exact Ext.refl _ | assumption | refine Ext.alloc ?_ _ | refine Ext.drew ?_ | refine Ext.trans ?_ (by assumption)))⟩

def pairO (sz : Int) (vs : List Vt) (x y : Int) : Int := if profOk sz vs && (hasB sz x && hasB sz y) then pairV vs x y else -1
def marginO (sz : Int) (vs : List Vt) (x y : Int) : Int := if profOk sz vs && (hasB sz x && hasB sz y) then marginV vs x y else 0

set_option maxRecDepth 100000 in
set_option maxHeartbeats 1000000 in
theorem margin_impl (w : World) (sz : Int) (a : Option Addr) (c : Nat) (vs : List Vt) (x y : Int) (hR : RdV w a vs) (hS : SmallV sz vs) :
    Calls Try.prog 119 #[.agg #[.int .i64 sz, .slice a vs.length c], .int .i64 x, .int .i64 y] w fun e w' => e = .returned (.int .i64 (marginV vs x y)) ∧ Ext w w' := by
  have b1 : 0 ≤ pairV vs x y ∧ pairV vs x y ≤ 24000 := sumV_bd' hS
  have b2 : 0 ≤ pairV vs y x ∧ pairV vs y x ≤ 24000 := sumV_bd' hS
  have q0 := new0 w (.int .i64 sz) [.slice a vs.length c] 47
  have q1 := new1 w (.int .i64 sz) (.slice a vs.length c) [] 47
  have w1 : wrap64 (pairV vs x y - pairV vs y x) = marginV vs x y := by rw [IntWalk.wrap64_in _ (by omega)]; rfl
  have w2 : IntKind.i64.wrap (pairV vs x y - pairV vs y x) = marginV vs x y := by rw [IntWalk.i64_left]; exact w1
  have HS := hide hS
  clear hS
  go_enter Try.func119, Try.ntmps119
  go_wp2
  refine wp_region_X (by kernel_rfl) (by kernel_rfl) ?_
  repeat' (refine wpX_stepQ (fun K hK => ?_)
           go_simp
           try (rw [if_neg (by intro h; simp [undef] at h)])
           try split
           all_goals
             first
             | (refine hK _ ?_
                clear hK K)
             | (apply Exists.intro
                refine ⟨fun wq hwq => ?_, hK _ ?_⟩
                · have hcq := hwq.cellS
                  go_simp
                  first
                  | exact ⟨Ext.refl _, rfl⟩
                  | exact ⟨Ext.refl _, pairI_impl _ _ _ _ _ _ _ (hR.ext (by repeat (first | exact Ext.refl _ | assumption | refine Ext.alloc ?_ _ | refine Ext.drew ?_ | refine Ext.trans ?_ (by assumption)))) HS.out⟩
                  | exact ⟨Ext.refl _, pairI_impl _ _ _ _ _ _ _ (hR.ext (by repeat (first | exact Ext.refl _ | assumption | refine Ext.alloc ?_ _ | refine Ext.drew ?_ | refine Ext.trans ?_ (by assumption)))) HS.out⟩
                clear hK K))
  refine wpX_nil (fun wz hwz => ?_)
  go_wp2
  go_ret
  exact ⟨rfl, (by repeat (first | exact Ext.refl _ | assumption | refine Ext.alloc ?_ _ | refine Ext.drew ?_ | refine Ext.trans ?_ (by assumption)))⟩

set_option maxRecDepth 100000 in
set_option maxHeartbeats 1000000 in
theorem beats_impl (w : World) (sz : Int) (a : Option Addr) (c : Nat) (vs : List Vt) (x y : Int) (hR : RdV w a vs) (hS : SmallV sz vs) :
    Calls Try.prog 138 #[.agg #[.int .i64 sz, .slice a vs.length c], .int .i64 x, .int .i64 y] w fun e w' => e = .returned (.bool (beatsV vs x y)) ∧ Ext w w' := by
  have HS := hide hS
  clear hS
  go_enter Try.func138, Try.ntmps138
  go_wp2_with (go_at_call 119; refine (margin_impl _ _ _ _ _ _ _ (hR.ext (by repeat (first | exact Ext.refl _ | assumption | refine Ext.alloc ?_ _ | refine Ext.drew ?_ | refine Ext.trans ?_ (by assumption)))) HS.out).mono ?_; rintro e w1 ⟨rfl, hw1⟩)
  go_ret
  exact ⟨ret_bool (by simp [beatsV, marginV]), (by repeat (first | exact Ext.refl _ | assumption | refine Ext.alloc ?_ _ | refine Ext.drew ?_ | refine Ext.trans ?_ (by assumption)))⟩

set_option maxRecDepth 100000 in
set_option maxHeartbeats 1000000 in
theorem pair_impl (w : World) (sz : Int) (a : Option Addr) (c : Nat) (vs : List Vt) (x y : Int) (hR : RdV w a vs) :
    Calls Try.prog 33 #[.agg #[.int .i64 sz, .slice a vs.length c], .int .i64 x, .int .i64 y] w fun e w' => e = .returned (.int .i64 (pairO sz vs x y)) ∧ Ext w w' := by
  have q0 := new0 w (.int .i64 sz) [.slice a vs.length c] 47
  have q1 := new1 w (.int .i64 sz) (.slice a vs.length c) [] 47
  cases h0 : profOk sz vs
  · go_enter Try.func33, Try.ntmps33
    go_wp2_with (go_at_call 35; refine (prof_impl _ _ _ _ _ (hR.ext (by repeat (first | exact Ext.refl _ | assumption | refine Ext.alloc ?_ _ | refine Ext.drew ?_ | refine Ext.trans ?_ (by assumption))))).mono ?_; rintro e w1 ⟨rfl, hw1⟩; have q0 := Ext.keep (w' := w1) (by repeat (first | exact Ext.refl _ | assumption | refine Ext.alloc ?_ _ | refine Ext.drew ?_ | refine Ext.trans ?_ (by assumption))) q0; have q1 := Ext.keep (w' := w1) (by repeat (first | exact Ext.refl _ | assumption | refine Ext.alloc ?_ _ | refine Ext.drew ?_ | refine Ext.trans ?_ (by assumption))) q1)
    go_ret
    exact ⟨ret_int (by simp [pairO, h0]), (by repeat (first | exact Ext.refl _ | assumption | refine Ext.alloc ?_ _ | refine Ext.drew ?_ | refine Ext.trans ?_ (by assumption)))⟩
  have ⟨s1, s2⟩ := prof_size h0
  have HS := hide (prof_small h0)
  cases h1 : hasB sz x <;> cases h2 : hasB sz y
  all_goals
    go_enter Try.func33, Try.ntmps33
    go_wp2_with (first | (go_at_call 35; refine (prof_impl _ _ _ _ _ (hR.ext (by repeat (first | exact Ext.refl _ | assumption | refine Ext.alloc ?_ _ | refine Ext.drew ?_ | refine Ext.trans ?_ (by assumption))))).mono ?_; rintro e w1 ⟨rfl, hw1⟩; have q0 := Ext.keep (w' := w1) (by repeat (first | exact Ext.refl _ | assumption | refine Ext.alloc ?_ _ | refine Ext.drew ?_ | refine Ext.trans ?_ (by assumption))) q0; have q1 := Ext.keep (w' := w1) (by repeat (first | exact Ext.refl _ | assumption | refine Ext.alloc ?_ _ | refine Ext.drew ?_ | refine Ext.trans ?_ (by assumption))) q1) | (go_at_call 120; refine (cand_impl _ _ _ _ _ _ s1 s2).mono ?_; rintro e w1 ⟨rfl, hw1⟩; have q0 := Ext.keep (w' := w1) (by repeat (first | exact Ext.refl _ | assumption | refine Ext.alloc ?_ _ | refine Ext.drew ?_ | refine Ext.trans ?_ (by assumption))) q0; have q1 := Ext.keep (w' := w1) (by repeat (first | exact Ext.refl _ | assumption | refine Ext.alloc ?_ _ | refine Ext.drew ?_ | refine Ext.trans ?_ (by assumption))) q1) | (go_at_call 121; refine (pairI_impl _ _ _ _ _ _ _ (hR.ext (by repeat (first | exact Ext.refl _ | assumption | refine Ext.alloc ?_ _ | refine Ext.drew ?_ | refine Ext.trans ?_ (by assumption)))) HS.out).mono ?_; rintro e w1 ⟨rfl, hw1⟩; have q0 := Ext.keep (w' := w1) (by repeat (first | exact Ext.refl _ | assumption | refine Ext.alloc ?_ _ | refine Ext.drew ?_ | refine Ext.trans ?_ (by assumption))) q0; have q1 := Ext.keep (w' := w1) (by repeat (first | exact Ext.refl _ | assumption | refine Ext.alloc ?_ _ | refine Ext.drew ?_ | refine Ext.trans ?_ (by assumption))) q1))
    go_ret
    exact ⟨ret_int (by simp [pairO, h0, h1, h2]), (by repeat (first | exact Ext.refl _ | assumption | refine Ext.alloc ?_ _ | refine Ext.drew ?_ | refine Ext.trans ?_ (by assumption)))⟩

set_option maxRecDepth 100000 in
set_option maxHeartbeats 1000000 in
theorem margin_impl' (w : World) (sz : Int) (a : Option Addr) (c : Nat) (vs : List Vt) (x y : Int) (hR : RdV w a vs) :
    Calls Try.prog 32 #[.agg #[.int .i64 sz, .slice a vs.length c], .int .i64 x, .int .i64 y] w fun e w' => e = .returned (.int .i64 (marginO sz vs x y)) ∧ Ext w w' := by
  have q0 := new0 w (.int .i64 sz) [.slice a vs.length c] 47
  have q1 := new1 w (.int .i64 sz) (.slice a vs.length c) [] 47
  cases h0 : profOk sz vs
  · go_enter Try.func32, Try.ntmps32
    go_wp2_with (go_at_call 35; refine (prof_impl _ _ _ _ _ (hR.ext (by repeat (first | exact Ext.refl _ | assumption | refine Ext.alloc ?_ _ | refine Ext.drew ?_ | refine Ext.trans ?_ (by assumption))))).mono ?_; rintro e w1 ⟨rfl, hw1⟩; have q0 := Ext.keep (w' := w1) (by repeat (first | exact Ext.refl _ | assumption | refine Ext.alloc ?_ _ | refine Ext.drew ?_ | refine Ext.trans ?_ (by assumption))) q0; have q1 := Ext.keep (w' := w1) (by repeat (first | exact Ext.refl _ | assumption | refine Ext.alloc ?_ _ | refine Ext.drew ?_ | refine Ext.trans ?_ (by assumption))) q1)
    go_ret
    exact ⟨ret_int (by simp [marginO, h0]), (by repeat (first | exact Ext.refl _ | assumption | refine Ext.alloc ?_ _ | refine Ext.drew ?_ | refine Ext.trans ?_ (by assumption)))⟩
  have ⟨s1, s2⟩ := prof_size h0
  have HS := hide (prof_small h0)
  cases h1 : hasB sz x <;> cases h2 : hasB sz y
  all_goals
    go_enter Try.func32, Try.ntmps32
    go_wp2_with (first | (go_at_call 35; refine (prof_impl _ _ _ _ _ (hR.ext (by repeat (first | exact Ext.refl _ | assumption | refine Ext.alloc ?_ _ | refine Ext.drew ?_ | refine Ext.trans ?_ (by assumption))))).mono ?_; rintro e w1 ⟨rfl, hw1⟩; have q0 := Ext.keep (w' := w1) (by repeat (first | exact Ext.refl _ | assumption | refine Ext.alloc ?_ _ | refine Ext.drew ?_ | refine Ext.trans ?_ (by assumption))) q0; have q1 := Ext.keep (w' := w1) (by repeat (first | exact Ext.refl _ | assumption | refine Ext.alloc ?_ _ | refine Ext.drew ?_ | refine Ext.trans ?_ (by assumption))) q1) | (go_at_call 120; refine (cand_impl _ _ _ _ _ _ s1 s2).mono ?_; rintro e w1 ⟨rfl, hw1⟩; have q0 := Ext.keep (w' := w1) (by repeat (first | exact Ext.refl _ | assumption | refine Ext.alloc ?_ _ | refine Ext.drew ?_ | refine Ext.trans ?_ (by assumption))) q0; have q1 := Ext.keep (w' := w1) (by repeat (first | exact Ext.refl _ | assumption | refine Ext.alloc ?_ _ | refine Ext.drew ?_ | refine Ext.trans ?_ (by assumption))) q1) | (go_at_call 119; refine (margin_impl _ _ _ _ _ _ _ (hR.ext (by repeat (first | exact Ext.refl _ | assumption | refine Ext.alloc ?_ _ | refine Ext.drew ?_ | refine Ext.trans ?_ (by assumption)))) HS.out).mono ?_; rintro e w1 ⟨rfl, hw1⟩; have q0 := Ext.keep (w' := w1) (by repeat (first | exact Ext.refl _ | assumption | refine Ext.alloc ?_ _ | refine Ext.drew ?_ | refine Ext.trans ?_ (by assumption))) q0; have q1 := Ext.keep (w' := w1) (by repeat (first | exact Ext.refl _ | assumption | refine Ext.alloc ?_ _ | refine Ext.drew ?_ | refine Ext.trans ?_ (by assumption))) q1))
    go_ret
    exact ⟨ret_int (by simp [marginO, h0, h1, h2]), (by repeat (first | exact Ext.refl _ | assumption | refine Ext.alloc ?_ _ | refine Ext.drew ?_ | refine Ext.trans ?_ (by assumption)))⟩

end Go.Proofs.Ythiojkpoeejkaaa
