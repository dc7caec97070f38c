/- Profiles in memory: a slice of votes reads as a list of rankings with counts. Who prefers whom: places, preferences, weights of voters, margins. Pair counts, margins and beats on both sides. How many rank a candidate behind, or before, all others that are left. -/
import Derived.Test.YtilcdnkkabmbfaaGreatCk1
namespace Go.Proofs.YtilcdnkkabmbfaaGreat
open Go.RowKit

abbrev Vt := List Int × Int
/-- The slice address a reads as the votes vs. -/
def RdV (w : World) (a : Option Addr) (vs : List Vt) : Prop :=
  vs ≠ [] → ∃ b off, a = some ⟨b, off, none⟩ ∧ ∀ (j : Nat) (x : Vt), vs[j]? = some x → ∃ a' c', w.cell? ⟨b, off + j * 2, none⟩ = some (.slice a' x.1.length c') ∧
    w.cell? ⟨b, off + j * 2 + 1, none⟩ = some (.int .i64 x.2) ∧ x.1.length ≤ c' ∧ RdI w a' x.1
set_option maxRecDepth 100000 in
theorem RdV.ext {w w' : World} {a : Option Addr} {vs : List Vt} (h : RdV w a vs) (hw : Ext w w') : RdV w' a vs := fun hne => by
  obtain ⟨b, off, ha, hc⟩ := h hne
  refine ⟨b, off, ha, fun j x hx => ?_⟩
  obtain ⟨a', c', h0, h1, h2, h3⟩ := hc j x hx
  exact ⟨a', c', hw.keep h0, hw.keep h1, h2, h3.ext hw⟩
set_option maxRecDepth 100000 in
theorem RdV.nil (w : World) (a : Option Addr) : RdV w a [] := fun h => absurd rfl h
set_option maxRecDepth 100000 in
theorem RdV.at_ {w : World} {a : Option Addr} {vs : List Vt} (h : RdV w a vs) {k : Nat} {x : Vt} (hx : vs[k]? = some x) :
    ∃ b off a' c', a = some ⟨b, off, none⟩ ∧ w.cell? ⟨b, off + k * 2, none⟩ = some (.slice a' x.1.length c') ∧ w.cell? ⟨b, off + k * 2 + 1, none⟩ = some (.int .i64 x.2) ∧ x.1.length ≤ c' ∧ RdI w a' x.1 := by
  obtain ⟨b, off, ha, hc⟩ := h (ne_of_at hx)
  obtain ⟨a', c', h⟩ := hc k x hx
  exact ⟨b, off, a', c', ha, h⟩

def vtOk (sz : Int) (x : Vt) : Bool := rkOk sz x.1 && inR x.2 1 1000
def profOk (sz : Int) (vs : List Vt) : Bool := inR sz 1 5 && (decide (vs.length ≤ 24) && vs.all (vtOk sz))

set_option maxRecDepth 100000 in
set_option maxHeartbeats 2000000 in
theorem prof_spec (w : World) (sz : Int) (a : Option Addr) (c : Nat) (vs : List Vt) (hR : RdV w a vs) :
    Calls Tryz.prog 127 #[.agg #[.int .i64 sz, .slice a vs.length c]] w fun e w' => e = .returned (.bool (profOk sz vs)) ∧ Ext w w' := by
  have q0 := new0 w (.int .i64 sz) [.slice a vs.length c] 29
  have q1 := new1 w (.int .i64 sz) (.slice a vs.length c) [] 29
  cases h1 : inR sz 1 5
  · go_enter Tryz.func127, Tryz.ntmps127
    go_wp2_with (go_at_call 69; refine (in_spec _ _ _ _).mono ?_; rintro e w1 ⟨rfl, hw1⟩)
    go_ret
    exact ⟨ret_bool (by simp [profOk, h1]), (by repeat (first | exact Ext.refl _ | assumption | refine Ext.alloc ?_ _ | refine Ext.drew ?_ | refine Ext.trans ?_ (by assumption)))⟩
  by_cases hl : vs.length ≤ 24
  · go_enter Tryz.func127, Tryz.ntmps127
    go_wp2_with (go_at_call 69; refine (in_spec _ _ _ _).mono ?_; rintro e w1 ⟨rfl, hw1⟩; have q0 := Ext.keep (w' := w1) (by repeat (first | exact Ext.refl _ | assumption | refine Ext.alloc ?_ _ | refine Ext.drew ?_ | refine Ext.trans ?_ (by assumption))) q0; have q1 := Ext.keep (w' := w1) (by repeat (first | exact Ext.refl _ | assumption | refine Ext.alloc ?_ _ | refine Ext.drew ?_ | refine Ext.trans ?_ (by assumption))) q1)
    obtain ⟨W0, rfl⟩ : ∃ W0 : World, W0 = w1 := ⟨_, rfl⟩
    have hw : Ext w W0 := (by repeat (first | exact Ext.refl _ | assumption | refine Ext.alloc ?_ _ | refine Ext.drew ?_ | refine Ext.trans ?_ (by assumption)))
    go_loopw [4, 18] (fun _ i wr => ∃ k : Nat, k ≤ vs.length ∧ i = .int .i64 k ∧ Hid ((vs.take k).all (vtOk sz) = true) ∧ Ext W0 wr) (fun _ i _ => vs.length - (intOf i).toNat)
    case atStart => exact ⟨0, Nat.zero_le _, rfl, rfl, Ext.refl _⟩
    case round =>
      obtain ⟨k, hk, rfl, hall, hwr⟩ := hrel
      have q0 := hwr.keep q0
      by_cases hlt : k < vs.length
      · obtain ⟨x, hx⟩ := at_of_lt hlt
        obtain ⟨b, off, a', c', rfl, c0, c1, hc', hRx⟩ := (hR.ext (hw.trans hwr)).at_ hx
        have e0 := new0 wr (.slice a' x.1.length c') [.int .i64 x.2] 55
        have e1 := new1 wr (.slice a' x.1.length c') (.int .i64 x.2) [] 55
        have HX := hide hx
        clear hx
        cases g1 : rkOk sz x.1
        · go_wp2_with (go_at_call 159; refine (rank_spec _ _ _ _ _ (hRx.ext (by repeat (first | exact Ext.refl _ | assumption | refine Ext.alloc ?_ _ | refine Ext.drew ?_ | refine Ext.trans ?_ (by assumption))))).mono ?_; rintro e w1 ⟨rfl, hw1⟩; have e0 := Ext.keep (w' := w1) (by repeat (first | exact Ext.refl _ | assumption | refine Ext.alloc ?_ _ | refine Ext.drew ?_ | refine Ext.trans ?_ (by assumption))) e0; have e1 := Ext.keep (w' := w1) (by repeat (first | exact Ext.refl _ | assumption | refine Ext.alloc ?_ _ | refine Ext.drew ?_ | refine Ext.trans ?_ (by assumption))) e1)
          go_ret
          exact ⟨ret_bool (by simp [profOk, all_false (f := vtOk sz) HX.out (by simp [vtOk, g1])]), (by repeat (first | exact Ext.refl _ | assumption | refine Ext.alloc ?_ _ | refine Ext.drew ?_ | refine Ext.trans ?_ (by assumption)))⟩
        cases g2 : inR x.2 1 1000
        · go_wp2_with (first | (go_at_call 159; refine (rank_spec _ _ _ _ _ (hRx.ext (by repeat (first | exact Ext.refl _ | assumption | refine Ext.alloc ?_ _ | refine Ext.drew ?_ | refine Ext.trans ?_ (by assumption))))).mono ?_; rintro e w1 ⟨rfl, hw1⟩; have e0 := Ext.keep (w' := w1) (by repeat (first | exact Ext.refl _ | assumption | refine Ext.alloc ?_ _ | refine Ext.drew ?_ | refine Ext.trans ?_ (by assumption))) e0; have e1 := Ext.keep (w' := w1) (by repeat (first | exact Ext.refl _ | assumption | refine Ext.alloc ?_ _ | refine Ext.drew ?_ | refine Ext.trans ?_ (by assumption))) e1) | (go_at_call 69; refine (in_spec _ _ _ _).mono ?_; rintro e w1 ⟨rfl, hw1⟩))
          go_ret
          exact ⟨ret_bool (by simp [profOk, all_false (f := vtOk sz) HX.out (by simp [vtOk, g2])]), (by repeat (first | exact Ext.refl _ | assumption | refine Ext.alloc ?_ _ | refine Ext.drew ?_ | refine Ext.trans ?_ (by assumption)))⟩
        · go_wp2_with (first | (go_at_call 159; refine (rank_spec _ _ _ _ _ (hRx.ext (by repeat (first | exact Ext.refl _ | assumption | refine Ext.alloc ?_ _ | refine Ext.drew ?_ | refine Ext.trans ?_ (by assumption))))).mono ?_; rintro e w1 ⟨rfl, hw1⟩; have e0 := Ext.keep (w' := w1) (by repeat (first | exact Ext.refl _ | assumption | refine Ext.alloc ?_ _ | refine Ext.drew ?_ | refine Ext.trans ?_ (by assumption))) e0; have e1 := Ext.keep (w' := w1) (by repeat (first | exact Ext.refl _ | assumption | refine Ext.alloc ?_ _ | refine Ext.drew ?_ | refine Ext.trans ?_ (by assumption))) e1) | (go_at_call 69; refine (in_spec _ _ _ _).mono ?_; rintro e w1 ⟨rfl, hw1⟩))
          exact ⟨⟨k + 1, by omega, by go_num, (all_take HX.out hall.out).trans (by simp [vtOk, g1, g2]), (by repeat (first | exact Ext.refl _ | assumption | refine Ext.alloc ?_ _ | refine Ext.drew ?_ | refine Ext.trans ?_ (by assumption)))⟩, by simp [intOf]; omega⟩
      · go_wp2
        go_ret
        exact ⟨ret_bool (by simp [profOk, h1, hl, all_whole (by omega) hall.out]), hw.trans hwr⟩
  · go_enter Tryz.func127, Tryz.ntmps127
    go_wp2_with (go_at_call 69; refine (in_spec _ _ _ _).mono ?_; rintro e w1 ⟨rfl, hw1⟩; have q0 := Ext.keep (w' := w1) (by repeat (first | exact Ext.refl _ | assumption | refine Ext.alloc ?_ _ | refine Ext.drew ?_ | refine Ext.trans ?_ (by assumption))) q0; have q1 := Ext.keep (w' := w1) (by repeat (first | exact Ext.refl _ | assumption | refine Ext.alloc ?_ _ | refine Ext.drew ?_ | refine Ext.trans ?_ (by assumption))) q1)
    go_ret
    exact ⟨ret_bool (by simp [profOk, hl]), (by repeat (first | exact Ext.refl _ | assumption | refine Ext.alloc ?_ _ | refine Ext.drew ?_ | refine Ext.trans ?_ (by assumption)))⟩

set_option maxRecDepth 100000 in
set_option maxHeartbeats 1000000 in
theorem indexFuncV (K : Nat) (fst cap : Array Value) (p : Vt → Bool) (w : World) (a : Option Addr) (c : Nat) (vs : List Vt) (hR : RdV w a vs) (hl : vs.length ≤ 2000000) (hK : Enters Tryz.prog K)
    (hf : ∀ (x : Vt) (a' : Option Addr) (c' : Nat) (w' : World), x ∈ vs → Ext w w' → RdI w' a' x.1 → x.1.length ≤ c' → Calls Tryz.prog K (fst.push (.agg #[.slice a' x.1.length c', .int .i64 x.2]) ++ cap) w' fun e w'' => e = .returned (.bool (p x)) ∧ Ext w' w'') :
    Calls Tryz.prog 136 #[.slice a vs.length c, .func (.func K) fst cap] w fun e w' => e = .returned (.int .i64 (findI p vs)) ∧ Ext w w' := by
  unfold Enters at hK
  have HF := hide hf
  clear hf
  go_enter Tryz.func136, Tryz.ntmps136
  go_wp2_with fail
  go_loopw [5, 8] (fun _ i wr => ∃ k : Nat, k ≤ vs.length ∧ i = .int .i64 k ∧ Hid ((vs.take k).all (fun x => !p x) = true) ∧ Ext w wr) (fun _ i _ => vs.length - (intOf i).toNat)
  case atStart => exact ⟨0, Nat.zero_le _, rfl, rfl, Ext.refl _⟩
  case round =>
    obtain ⟨k, hk, rfl, hall, hwr⟩ := hrel
    by_cases hlt : k < vs.length
    · obtain ⟨x, hx⟩ := at_of_lt hlt
      obtain ⟨b, off, a', c', rfl, c0, c1, hc', hRx⟩ := (hR.ext hwr).at_ hx
      have HX := hide hx
      clear hx
      cases hp : p x
      all_goals
        go_wp2_with fail
        refine (HF.out x a' c' wr (List.mem_of_getElem? HX.out) hwr hRx hc').mono ?_
        rintro e w1 ⟨rfl, hw1⟩
        go_wp2
      · exact ⟨⟨k + 1, by omega, by go_num, (all_take HX.out hall.out).trans (by simp [hp]), hwr.trans hw1⟩, by simp [intOf]; omega⟩
      · go_ret
        exact ⟨ret_int (findI_some HX.out hall.out hp).symm, hwr.trans hw1⟩
    · go_wp2
      go_ret
      exact ⟨ret_int (findI_none (all_whole (by omega) hall.out)).symm, hwr⟩

set_option maxRecDepth 100000 in
set_option maxHeartbeats 1000000 in
theorem containsFuncV (K : Nat) (fst cap : Array Value) (p : Vt → Bool) (w : World) (a : Option Addr) (c : Nat) (vs : List Vt) (hR : RdV w a vs) (hl : vs.length ≤ 2000000) (hK : Enters Tryz.prog K)
    (hf : ∀ (x : Vt) (a' : Option Addr) (c' : Nat) (w' : World), x ∈ vs → Ext w w' → RdI w' a' x.1 → x.1.length ≤ c' → Calls Tryz.prog K (fst.push (.agg #[.slice a' x.1.length c', .int .i64 x.2]) ++ cap) w' fun e w'' => e = .returned (.bool (p x)) ∧ Ext w' w'') :
    Calls Tryz.prog 78 #[.slice a vs.length c, .func (.func K) fst cap] w fun e w' => e = .returned (.bool (vs.any p)) ∧ Ext w w' := by
  have H := hide (indexFuncV K fst cap p w a c vs hR hl hK hf)
  clear hf
  go_enter Tryz.func78, Tryz.ntmps78
  go_wp2_with fail
  refine H.out.mono ?_
  rintro e w1 ⟨rfl, hw1⟩
  go_wp2
  go_ret
  exact ⟨ret_bool (findI_nonneg p vs), hw1⟩

set_option maxRecDepth 100000 in
set_option maxHeartbeats 1000000 in
theorem profOne_impl (w : World) (sz : Int) (b off : Nat) (a' : Option Addr) (c' : Nat) (x : Vt) (hRx : RdI w a' x.1) (hc' : x.1.length ≤ c')
    (h0 : w.cell? ⟨b, off, none⟩ = some (.int .i64 sz)) :
    Calls Tryz.prog 79 #[.agg #[.slice a' x.1.length c', .int .i64 x.2], .pointer (some ⟨b, off, none⟩)] w fun e w' => e = .returned (.bool (!vtOk sz x)) ∧ Ext w w' := by
  have e0 := new0 w (.slice a' x.1.length c') [.int .i64 x.2] 55
  have e1 := new1 w (.slice a' x.1.length c') (.int .i64 x.2) [] 55
  cases g1 : rkOk sz x.1
  all_goals
    go_enter Tryz.func79, Tryz.ntmps79
    go_wp2_with (first | (go_at_call 80; refine (rank_impl _ _ _ _ _ (hRx.ext (by repeat (first | exact Ext.refl _ | assumption | refine Ext.alloc ?_ _ | refine Ext.drew ?_ | refine Ext.trans ?_ (by assumption)))) hc').mono ?_; rintro e w1 ⟨rfl, hw1⟩; have e0 := Ext.keep (w' := w1) (by repeat (first | exact Ext.refl _ | assumption | refine Ext.alloc ?_ _ | refine Ext.drew ?_ | refine Ext.trans ?_ (by assumption))) e0; have e1 := Ext.keep (w' := w1) (by repeat (first | exact Ext.refl _ | assumption | refine Ext.alloc ?_ _ | refine Ext.drew ?_ | refine Ext.trans ?_ (by assumption))) e1) | (go_at_call 63; refine (in_impl _ _ _ _).mono ?_; rintro e w1 ⟨rfl, hw1⟩))
    go_ret
  · exact ⟨ret_bool (by simp [vtOk, g1]), (by repeat (first | exact Ext.refl _ | assumption | refine Ext.alloc ?_ _ | refine Ext.drew ?_ | refine Ext.trans ?_ (by assumption)))⟩
  · exact ⟨ret_bool (by simp [vtOk, g1]), (by repeat (first | exact Ext.refl _ | assumption | refine Ext.alloc ?_ _ | refine Ext.drew ?_ | refine Ext.trans ?_ (by assumption)))⟩

set_option maxRecDepth 100000 in
set_option maxHeartbeats 1000000 in
theorem prof_impl (w : World) (sz : Int) (a : Option Addr) (c : Nat) (vs : List Vt) (hR : RdV w a vs) :
    Calls Tryz.prog 36 #[.agg #[.int .i64 sz, .slice a vs.length c]] w fun e w' => e = .returned (.bool (profOk sz vs)) ∧ Ext w w' := by
  cases h1 : inR sz 1 5
  · go_enter Tryz.func36, Tryz.ntmps36
    go_wp2_with (go_at_call 63; refine (in_impl _ _ _ _).mono ?_; rintro e w1 ⟨rfl, hw1⟩; have hc1 := hw1.cellS; have hf1 := hw1.frozenS)
    go_ret
    exact ⟨ret_bool (by simp [profOk, h1]), (by repeat (first | exact Ext.refl _ | assumption | refine Ext.alloc ?_ _ | refine Ext.drew ?_ | refine Ext.trans ?_ (by assumption)))⟩
  by_cases hl : vs.length ≤ 24
  · have HC := hide (fun (w1 : World) (hw1 : Ext (w.alloc (.cells #[.int .i64 sz, .slice a vs.length c] 29)) w1) =>
      containsFuncV 79 #[] #[.pointer (some ⟨w.heap.size, 0, none⟩)] (fun x => !vtOk sz x) w1 a c vs (hR.ext hw1.a) (by omega) (fun _ _ => Tryz.call79 _ _)
        (fun x a' c' w' _ hw' hRx hc' => profOne_impl w' sz _ 0 a' c' x hRx hc' (hw'.keep (hw1.keep (new0 w _ _ _)))))
    go_enter Tryz.func36, Tryz.ntmps36
    go_wp2_with (go_at_call 63; refine (in_impl _ _ _ _).mono ?_; rintro e w1 ⟨rfl, hw1⟩; have hc1 := hw1.cellS; have hf1 := hw1.frozenS)
    refine (HC.out _ hw1).mono ?_
    rintro e w2 ⟨rfl, hw2⟩
    go_wp2
    go_ret
    exact ⟨ret_bool (by simp [profOk, h1, hl, any_not]), (by repeat (first | exact Ext.refl _ | assumption | refine Ext.alloc ?_ _ | refine Ext.drew ?_ | refine Ext.trans ?_ (by assumption)))⟩
  · go_enter Tryz.func36, Tryz.ntmps36
    go_wp2_with (go_at_call 63; refine (in_impl _ _ _ _).mono ?_; rintro e w1 ⟨rfl, hw1⟩; have hc1 := hw1.cellS; have hf1 := hw1.frozenS)
    go_ret
    exact ⟨ret_bool (by simp [profOk, hl]), (by repeat (first | exact Ext.refl _ | assumption | refine Ext.alloc ?_ _ | refine Ext.drew ?_ | refine Ext.trans ?_ (by assumption)))⟩

def placeI (xs : List Int) (a : Int) : Int := findI (fun y => a == y) xs
def prefB (xs : List Int) (a b : Int) : Bool := decide (0 ≤ placeI xs a) && (decide (0 ≤ placeI xs b) && decide (placeI xs a < placeI xs b))
set_option maxRecDepth 100000 in
theorem placeI_lt (xs : List Int) (a : Int) : -1 ≤ placeI xs a ∧ placeI xs a < xs.length + 1 := by
  unfold placeI findI
  cases h : xs.findIdx? (fun y => a == y) with
  | none => simp; omega
  | some i =>
    rw [List.findIdx?_eq_some_iff_getElem] at h
    obtain ⟨hk, _⟩ := h
    simp; omega

set_option maxRecDepth 100000 in
set_option maxHeartbeats 1000000 in
theorem place_spec (w : World) (a : Option Addr) (c : Nat) (xs : List Int) (x : Int) (hR : RdI w a xs) (hl : xs.length ≤ 2000000) :
    Calls Tryz.prog 130 #[.slice a xs.length c, .int .i64 x] w fun e w' => e = .returned (.int .i64 (placeI xs x)) ∧ Ext w w' := by
  go_enter Tryz.func130, Tryz.ntmps130
  go_wp2_with fail
  go_loopw [5, 6, 9] (fun _ _ i wr => ∃ k : Nat, k ≤ xs.length ∧ i = .int .i64 k ∧ Hid ((xs.take k).all (fun y => !(x == y)) = true) ∧ Ext w wr) (fun _ _ i _ => xs.length - (intOf i).toNat)
  case atStart => exact ⟨0, Nat.zero_le _, rfl, rfl, Ext.refl _⟩
  case round =>
    obtain ⟨k, hk, rfl, hall, hwr⟩ := hrel
    by_cases hlt : k < xs.length
    · obtain ⟨y, hy⟩ := at_of_lt hlt
      obtain ⟨b, off, rfl, c0⟩ := (hR.ext hwr).at_ hy
      have HY := hide hy
      clear hy
      have hxy : (x == y) = (y == x) := BEq.comm
      cases hp : (y == x)
      all_goals rw [hp] at hxy
      all_goals go_wp2
      · exact ⟨⟨k + 1, by omega, by go_num, (all_take HY.out hall.out).trans (by simp [hxy]), hwr⟩, by simp [intOf]; omega⟩
      · go_ret
        exact ⟨ret_int (findI_some HY.out hall.out hxy).symm, hwr⟩
    · go_wp2
      go_ret
      exact ⟨ret_int (findI_none (all_whole (by omega) hall.out)).symm, hwr⟩

set_option maxRecDepth 100000 in
set_option maxHeartbeats 1000000 in
theorem place_impl (w : World) (a : Option Addr) (c : Nat) (xs : List Int) (x : Int) (hR : RdI w a xs) (hl : xs.length ≤ 2000000) :
    Calls Tryz.prog 116 #[.slice a xs.length c, .int .i64 x] w fun e w' => e = .returned (.int .i64 (placeI xs x)) ∧ Ext w w' := by
  go_enter Tryz.func116, Tryz.ntmps116
  go_wp2_with (go_at_call 155; refine (indexI _ _ _ _ _ hR hl).mono ?_; rintro e w1 ⟨rfl, hw1⟩)
  go_ret
  exact ⟨rfl, hw1⟩

set_option maxRecDepth 100000 in
set_option maxHeartbeats 1000000 in
theorem pref_spec (w : World) (a : Option Addr) (c : Nat) (xs : List Int) (x y : Int) (hR : RdI w a xs) (hl : xs.length ≤ 2000000) :
    Calls Tryz.prog 71 #[.slice a xs.length c, .int .i64 x, .int .i64 y] w fun e w' => e = .returned (.bool (prefB xs x y)) ∧ Ext w w' := by
  by_cases h1 : 0 ≤ placeI xs x <;> by_cases h2 : 0 ≤ placeI xs y <;> by_cases h3 : placeI xs x < placeI xs y
  all_goals
    go_enter Tryz.func71, Tryz.ntmps71
    go_wp2_with (go_at_call 130; refine (place_spec _ _ _ _ _ (hR.ext (by repeat (first | exact Ext.refl _ | assumption | refine Ext.alloc ?_ _ | refine Ext.drew ?_ | refine Ext.trans ?_ (by assumption)))) hl).mono ?_; rintro e w1 ⟨rfl, hw1⟩)
    all_goals go_ret
    all_goals exact ⟨ret_bool (by simp [prefB, h1, h2, h3]), (by repeat (first | exact Ext.refl _ | assumption | refine Ext.alloc ?_ _ | refine Ext.drew ?_ | refine Ext.trans ?_ (by assumption)))⟩

set_option maxRecDepth 100000 in
set_option maxHeartbeats 1000000 in
theorem pref_impl (w : World) (a : Option Addr) (c : Nat) (xs : List Int) (x y : Int) (hR : RdI w a xs) (hl : xs.length ≤ 2000000) :
    Calls Tryz.prog 62 #[.slice a xs.length c, .int .i64 x, .int .i64 y] w fun e w' => e = .returned (.bool (prefB xs x y)) ∧ Ext w w' := by
  by_cases h1 : 0 ≤ placeI xs x <;> by_cases h2 : 0 ≤ placeI xs y <;> by_cases h3 : placeI xs x < placeI xs y
  all_goals
    go_enter Tryz.func62, Tryz.ntmps62
    go_wp2_with (go_at_call 116; refine (place_impl _ _ _ _ _ (hR.ext (by repeat (first | exact Ext.refl _ | assumption | refine Ext.alloc ?_ _ | refine Ext.drew ?_ | refine Ext.trans ?_ (by assumption)))) hl).mono ?_; rintro e w1 ⟨rfl, hw1⟩)
    all_goals go_ret
    all_goals exact ⟨ret_bool (by simp [prefB, h1, h2, h3]), (by repeat (first | exact Ext.refl _ | assumption | refine Ext.alloc ?_ _ | refine Ext.drew ?_ | refine Ext.trans ?_ (by assumption)))⟩

/-- The weight of the votes whose ranking has a property. -/
def sumV (p : List Int → Bool) (vs : List Vt) : Int := ((vs.filter (fun x => p x.1)).map Prod.snd).sum
set_option maxRecDepth 100000 in
theorem sumV_at {p : List Int → Bool} {vs : List Vt} {k : Nat} {x : Vt} (hx : vs[k]? = some x) : sumV p (vs.take (k + 1)) = sumV p (vs.take k) + if p x.1 then x.2 else 0 := by
  rw [take_at hx]
  unfold sumV
  rw [List.filter_append, List.map_append, List.sum_append]
  cases h : p x.1 <;> simp [h]
def SmallV (sz : Int) (vs : List Vt) : Prop := vs.length ≤ 24 ∧ ∀ x ∈ vs, rkOk sz x.1 = true ∧ 1 ≤ x.2 ∧ x.2 ≤ 1000
set_option maxRecDepth 100000 in
theorem prof_size {sz : Int} {vs : List Vt} (h : profOk sz vs = true) : 1 ≤ sz ∧ sz ≤ 5 := by
  simp only [profOk, Bool.and_eq_true] at h; exact inR_iff.1 h.1
set_option maxRecDepth 100000 in
theorem prof_small {sz : Int} {vs : List Vt} (h : profOk sz vs = true) : SmallV sz vs := by
  simp only [profOk, Bool.and_eq_true, decide_eq_true_eq] at h
  refine ⟨h.2.1, fun x hx => ?_⟩
  have h2 := List.all_eq_true.1 h.2.2 x hx
  simp only [vtOk, Bool.and_eq_true] at h2
  have h4 := inR_iff.1 h2.2
  exact ⟨h2.1, h4.1, h4.2⟩
set_option maxRecDepth 100000 in
theorem rk_len {m : Int} {xs : List Int} (h : rkOk m xs = true) : (xs.length : Int) = m ∧ xs.length ≤ 5 := by
  simp only [rkOk, Bool.and_eq_true, decide_eq_true_eq] at h
  have := inR_iff.1 h.1
  omega
set_option maxRecDepth 100000 in
theorem rk_mem {m : Int} {xs : List Int} (h : rkOk m xs = true) {x : Int} (hx : x ∈ xs) : 0 ≤ x ∧ x ≤ m - 1 := by
  simp only [rkOk, Bool.and_eq_true, decide_eq_true_eq] at h
  exact inR_iff.1 (List.all_eq_true.1 h.2.2.1 x hx)
set_option maxRecDepth 100000 in
theorem rk_nodup {m : Int} {xs : List Int} (h : rkOk m xs = true) : xs.Nodup := by
  simp only [rkOk, Bool.and_eq_true, decide_eq_true_eq] at h
  exact h.2.2.2
set_option maxRecDepth 100000 in
theorem sumV_bd {p : List Int → Bool} {sz : Int} {vs : List Vt} (h : SmallV sz vs) : ∀ k : Nat, k ≤ vs.length → 0 ≤ sumV p (vs.take k) ∧ sumV p (vs.take k) ≤ 1000 * k
  | 0, _ => by simp [sumV]
  | k + 1, hk => by
    obtain ⟨x, hx⟩ := at_of_lt (xs := vs) (k := k) (by omega)
    have h1 := sumV_bd h k (by omega) (p := p)
    have h2 := h.2 x (List.mem_of_getElem? hx)
    rw [sumV_at hx]
    split <;> omega
set_option maxRecDepth 100000 in
theorem sumV_bd' {p : List Int → Bool} {sz : Int} {vs : List Vt} (h : SmallV sz vs) : 0 ≤ sumV p vs ∧ sumV p vs ≤ 24000 := by
  have h1 := sumV_bd h vs.length (Nat.le_refl _) (p := p)
  rw [List.take_length] at h1
  have := h.1
  omega
def pairV (vs : List Vt) (a b : Int) : Int := sumV (fun r => prefB r a b) vs
def marginV (vs : List Vt) (a b : Int) : Int := pairV vs a b - pairV vs b a
def beatsV (vs : List Vt) (a b : Int) : Bool := decide (pairV vs b a < pairV vs a b)

set_option maxRecDepth 100000 in
set_option maxHeartbeats 1000000 in
theorem votersV (K : Nat) (fst cap : Array Value) (p : List Int → Bool) (w : World) (sz : Int) (a : Option Addr) (c : Nat) (vs : List Vt) (hR : RdV w a vs) (hS : SmallV sz vs) (hK : Enters Tryz.prog K)
    (hf : ∀ (x : Vt) (a' : Option Addr) (c' : Nat) (w' : World), x ∈ vs → Ext w w' → RdI w' a' x.1 → x.1.length ≤ c' → Calls Tryz.prog K (fst.push (.slice a' x.1.length c') ++ cap) w' fun e w'' => e = .returned (.bool (p x.1)) ∧ Ext w' w'') :
    Calls Tryz.prog 140 #[.agg #[.int .i64 sz, .slice a vs.length c], .func (.func K) fst cap] w fun e w' => e = .returned (.int .i64 (sumV p vs)) ∧ Ext w w' := by
  unfold Enters at hK
  have HF := hide hf
  clear hf
  have HS := hide hS
  have hl := hS.1
  clear hS
  go_enter Tryz.func140, Tryz.ntmps140
  go_wp2_with fail
  go_loopw [5, 7, 11] (fun s _ i wr => ∃ k : Nat, k ≤ vs.length ∧ i = .int .i64 k ∧ s = .int .i64 (sumV p (vs.take k)) ∧ Ext w wr) (fun _ _ i _ => vs.length - (intOf i).toNat)
  case atStart => exact ⟨0, Nat.zero_le _, rfl, rfl, (by repeat (first | exact Ext.refl _ | assumption | refine Ext.alloc ?_ _ | refine Ext.drew ?_ | refine Ext.trans ?_ (by assumption)))⟩
  case round =>
    obtain ⟨k, hk, rfl, rfl, hwr⟩ := hrel
    obtain ⟨b1, b2⟩ := sumV_bd HS.out k hk (p := p)
    by_cases hlt : k < vs.length
    · obtain ⟨x, hx⟩ := at_of_lt hlt
      obtain ⟨b, off, a', c', rfl, c0, c1, hc', hRx⟩ := (hR.ext hwr).at_ hx
      obtain ⟨_, x1, x2⟩ := HS.out.2 x (List.mem_of_getElem? hx)
      have HX := hide hx
      clear hx
      cases hp : p x.1
      all_goals
        go_wp2_with fail
        refine (HF.out x a' c' _ (List.mem_of_getElem? HX.out) (by repeat (first | exact Ext.refl _ | assumption | refine Ext.alloc ?_ _ | refine Ext.drew ?_ | refine Ext.trans ?_ (by assumption))) (hRx.ext (by repeat (first | exact Ext.refl _ | assumption | refine Ext.alloc ?_ _ | refine Ext.drew ?_ | refine Ext.trans ?_ (by assumption)))) hc').mono ?_
        rintro e w1 ⟨rfl, hw1⟩
        have e1 := hw1.keep (new1 wr _ _ _ _)
        go_wp2
      · exact ⟨⟨k + 1, by omega, by go_num, by rw [sumV_at HX.out, hp]; simp, (by repeat (first | exact Ext.refl _ | assumption | refine Ext.alloc ?_ _ | refine Ext.drew ?_ | refine Ext.trans ?_ (by assumption)))⟩, by simp [intOf]; omega⟩
      · exact ⟨⟨k + 1, by omega, by go_num, by rw [sumV_at HX.out, hp]; simp, (by repeat (first | exact Ext.refl _ | assumption | refine Ext.alloc ?_ _ | refine Ext.drew ?_ | refine Ext.trans ?_ (by assumption)))⟩, by simp [intOf]; omega⟩
    · go_wp2
      go_ret
      exact ⟨ret_int (by rw [List.take_of_length_le (by omega)]), hwr⟩

def hasB (sz a : Int) : Bool := inR a 0 (sz - 1)

set_option maxRecDepth 100000 in
set_option maxHeartbeats 1000000 in
theorem cand_spec (w : World) (sz : Int) (a : Option Addr) (n c : Nat) (x : Int) (h1 : 1 ≤ sz) (h2 : sz ≤ 5) :
    Calls Tryz.prog 224 #[.agg #[.int .i64 sz, .slice a n c], .int .i64 x] w fun e w' => e = .returned (.bool (hasB sz x)) ∧ Ext w w' := by
  go_enter Tryz.func224, Tryz.ntmps224
  go_wp2_with (go_at_call 69; refine (in_spec _ _ _ _).mono ?_; rintro e w1 ⟨rfl, hw1⟩)
  go_ret
  exact ⟨rfl, (by repeat (first | exact Ext.refl _ | assumption | refine Ext.alloc ?_ _ | refine Ext.drew ?_ | refine Ext.trans ?_ (by assumption)))⟩

set_option maxRecDepth 100000 in
set_option maxHeartbeats 1000000 in
theorem cand_impl (w : World) (sz : Int) (a : Option Addr) (n c : Nat) (x : Int) (h1 : 1 ≤ sz) (h2 : sz ≤ 5) :
    Calls Tryz.prog 53 #[.agg #[.int .i64 sz, .slice a n c], .int .i64 x] w fun e w' => e = .returned (.bool (hasB sz x)) ∧ Ext w w' := by
  go_enter Tryz.func53, Tryz.ntmps53
  go_wp2_with (go_at_call 63; refine (in_impl _ _ _ _).mono ?_; rintro e w1 ⟨rfl, hw1⟩)
  go_ret
  exact ⟨rfl, (by repeat (first | exact Ext.refl _ | assumption | refine Ext.alloc ?_ _ | refine Ext.drew ?_ | refine Ext.trans ?_ (by assumption)))⟩

set_option maxRecDepth 100000 in
set_option maxHeartbeats 1000000 in
theorem pairI_spec (w : World) (sz : Int) (a : Option Addr) (c : Nat) (vs : List Vt) (x y : Int) (hR : RdV w a vs) (hS : SmallV sz vs) :
    Calls Tryz.prog 199 #[.agg #[.int .i64 sz, .slice a vs.length c], .int .i64 x, .int .i64 y] w fun e w' => e = .returned (.int .i64 (pairV vs x y)) ∧ Ext w w' := by
  have HS := hide hS
  have hl := hS.1
  clear hS
  go_enter Tryz.func199, Tryz.ntmps199
  go_wp2_with fail
  have hw := Ext.new w (.cells #[.int .i64 sz, .slice a vs.length c] 29)
  generalize w.alloc (.cells #[.int .i64 sz, .slice a vs.length c] 29) = W0 at hw ⊢
  go_loopw [7, 9, 13] (fun s _ i wr => ∃ k : Nat, k ≤ vs.length ∧ i = .int .i64 k ∧ s = .int .i64 (sumV (fun r => prefB r x y) (vs.take k)) ∧ Ext W0 wr) (fun _ _ i _ => vs.length - (intOf i).toNat)
  case atStart => exact ⟨0, Nat.zero_le _, rfl, rfl, (by repeat (first | exact Ext.refl _ | assumption | refine Ext.alloc ?_ _ | refine Ext.drew ?_ | refine Ext.trans ?_ (by assumption)))⟩
  case round =>
    obtain ⟨k, hk, rfl, rfl, hwr⟩ := hrel
    obtain ⟨b1, b2⟩ := sumV_bd HS.out k hk (p := fun r => prefB r x y)
    by_cases hlt : k < vs.length
    · obtain ⟨v, hx⟩ := at_of_lt hlt
      obtain ⟨b, off, a', c', rfl, c0, c1, hc', hRx⟩ := (hR.ext (hw.trans hwr)).at_ hx
      obtain ⟨x0, x1, x2⟩ := HS.out.2 v (List.mem_of_getElem? hx)
      have hvl := (rk_len x0).2
      have HX := hide hx
      clear hx x0
      cases hp : prefB v.1 x y
      all_goals
        go_wp2_with fail
        refine (pref_spec _ _ _ _ _ _ (hRx.ext (by repeat (first | exact Ext.refl _ | assumption | refine Ext.alloc ?_ _ | refine Ext.drew ?_ | refine Ext.trans ?_ (by assumption)))) (by omega)).mono ?_
        rintro e w1 ⟨rfl, hw1⟩
        have e1 := hw1.keep (new1 wr _ _ _ _)
        rw [hp]
        go_wp2
      · exact ⟨⟨k + 1, by omega, by go_num, by rw [sumV_at HX.out, hp]; simp, (by repeat (first | exact Ext.refl _ | assumption | refine Ext.alloc ?_ _ | refine Ext.drew ?_ | refine Ext.trans ?_ (by assumption)))⟩, by simp [intOf]; omega⟩
      · exact ⟨⟨k + 1, by omega, by go_num, by rw [sumV_at HX.out, hp]; simp, (by repeat (first | exact Ext.refl _ | assumption | refine Ext.alloc ?_ _ | refine Ext.drew ?_ | refine Ext.trans ?_ (by assumption)))⟩, by simp [intOf]; omega⟩
    · go_wp2
      go_ret
      exact ⟨ret_int (by rw [List.take_of_length_le (by omega)]; rfl), hw.trans hwr⟩

set_option maxRecDepth 100000 in
set_option maxHeartbeats 1000000 in
theorem pairF (w : World) (g1 g2 : Nat) (a : Option Addr) (c : Nat) (xs : List Int) (x y : Int) (h1 : w.cell? ⟨g1, 0, none⟩ = some (.int .i64 x)) (h2 : w.cell? ⟨g2, 0, none⟩ = some (.int .i64 y)) (hR : RdI w a xs) (hl : xs.length ≤ 2000000) :
    Calls Tryz.prog 142 #[.slice a xs.length c, .pointer (some ⟨g1, 0, none⟩), .pointer (some ⟨g2, 0, none⟩)] w fun e w' => e = .returned (.bool (prefB xs x y)) ∧ Ext w w' := by
  go_enter Tryz.func142, Tryz.ntmps142
  go_wp2_with (go_at_call 62; refine (pref_impl _ _ _ _ _ _ hR hl).mono ?_; rintro e w1 ⟨rfl, hw1⟩)
  go_ret
  exact ⟨rfl, (by repeat (first | exact Ext.refl _ | assumption | refine Ext.alloc ?_ _ | refine Ext.drew ?_ | refine Ext.trans ?_ (by assumption)))⟩

set_option maxRecDepth 100000 in
set_option maxHeartbeats 1000000 in
theorem pairI_impl (w : World) (sz : Int) (a : Option Addr) (c : Nat) (vs : List Vt) (x y : Int) (hR : RdV w a vs) (hS : SmallV sz vs) :
    Calls Tryz.prog 91 #[.agg #[.int .i64 sz, .slice a vs.length c], .int .i64 x, .int .i64 y] w fun e w' => e = .returned (.int .i64 (pairV vs x y)) ∧ Ext w w' := by
  have HS := hide hS
  clear hS
  go_enter Tryz.func91, Tryz.ntmps91
  go_wp2_with fail
  refine (votersV 142 _ _ (fun r => prefB r x y) _ sz _ _ vs (hR.ext (by repeat (first | exact Ext.refl _ | assumption | refine Ext.alloc ?_ _ | refine Ext.drew ?_ | refine Ext.trans ?_ (by assumption)))) HS.out Tryz.call142 ?_).mono ?_
  · intro v a' c' w' hv hw' hRv hc'
    exact pairF w' _ _ a' c' v.1 x y (hw'.keep (by go_simp)) (hw'.keep (by go_simp)) hRv (by have := (rk_len (HS.out.2 v hv).1).2; omega)
  rintro e w1 ⟨rfl, hw1⟩
  go_wp2
  go_ret
  exact ⟨rfl, (by repeat (first | exact Ext.refl _ | assumption | refine Ext.alloc ?_ _ | refine Ext.drew ?_ | refine Ext.trans ?_ (by assumption)))⟩

def lsP (left : List Int) (x : Int) (r : List Int) : Bool := !(left.any (fun b => prefB r x b))
def fsP (left : List Int) (x : Int) (r : List Int) : Bool := !(left.any (fun b => prefB r b x))

set_option maxRecDepth 100000 in
set_option maxHeartbeats 1000000 in
theorem lastIn (w : World) (g1 g2 : Nat) (a : Option Addr) (c : Nat) (xs : List Int) (x b : Int) (h1 : w.cell? ⟨g1, 0, none⟩ = some (.slice a xs.length c)) (h2 : w.cell? ⟨g2, 0, none⟩ = some (.int .i64 x)) (hR : RdI w a xs) (hl : xs.length ≤ 2000000) :
    Calls Tryz.prog 149 #[.int .i64 b, .pointer (some ⟨g1, 0, none⟩), .pointer (some ⟨g2, 0, none⟩)] w fun e w' => e = .returned (.bool (prefB xs x b)) ∧ Ext w w' := by
  go_enter Tryz.func149, Tryz.ntmps149
  go_wp2_with (go_at_call 62; refine (pref_impl _ _ _ _ _ _ (hR.ext (by repeat (first | exact Ext.refl _ | assumption | refine Ext.alloc ?_ _ | refine Ext.drew ?_ | refine Ext.trans ?_ (by assumption)))) hl).mono ?_; rintro e w1 ⟨rfl, hw1⟩)
  go_ret
  exact ⟨rfl, (by repeat (first | exact Ext.refl _ | assumption | refine Ext.alloc ?_ _ | refine Ext.drew ?_ | refine Ext.trans ?_ (by assumption)))⟩

set_option maxRecDepth 100000 in
set_option maxHeartbeats 1000000 in
theorem lastCl (w : World) (gl ga : Nat) (al a : Option Addr) (cl c : Nat) (left xs : List Int) (x : Int) (h1 : w.cell? ⟨gl, 0, none⟩ = some (.slice al left.length cl)) (h2 : w.cell? ⟨ga, 0, none⟩ = some (.int .i64 x)) (hL : RdI w al left) (hR : RdI w a xs) (hl : xs.length ≤ 2000000) (hll : left.length ≤ 2000000) :
    Calls Tryz.prog 148 #[.slice a xs.length c, .pointer (some ⟨gl, 0, none⟩), .pointer (some ⟨ga, 0, none⟩)] w fun e w' => e = .returned (.bool (lsP left x xs)) ∧ Ext w w' := by
  have p0 := new0 w (.slice a xs.length c) [] 36
  have h1' := Ext.keep (Ext.new w (.cells #[.slice a xs.length c] 36)) h1
  have h2' := Ext.keep (Ext.new w (.cells #[.slice a xs.length c] 36)) h2
  go_enter Tryz.func148, Tryz.ntmps148
  go_wp2_with fail
  refine (containsFuncI 149 #[] #[.pointer (some ⟨w.heap.size, 0, none⟩), .pointer (some ⟨ga, 0, none⟩)] (fun b => prefB xs x b) _ al cl left (hL.ext (by repeat (first | exact Ext.refl _ | assumption | refine Ext.alloc ?_ _ | refine Ext.drew ?_ | refine Ext.trans ?_ (by assumption)))) hll Tryz.call149
    (fun b w' _ hw' => lastIn w' _ _ a c xs x b (hw'.keep p0) (hw'.keep h2') (hR.ext ((Ext.new _ _).trans hw')) hl)).mono ?_
  rintro e w1 ⟨rfl, hw1⟩
  go_wp2
  go_ret
  exact ⟨rfl, (by repeat (first | exact Ext.refl _ | assumption | refine Ext.alloc ?_ _ | refine Ext.drew ?_ | refine Ext.trans ?_ (by assumption)))⟩

set_option maxRecDepth 100000 in
set_option maxHeartbeats 1000000 in
theorem last_impl (w : World) (sz : Int) (a al : Option Addr) (c cl : Nat) (vs : List Vt) (left : List Int) (x : Int) (hR : RdV w a vs) (hS : SmallV sz vs) (hL : RdI w al left) (hll : left.length ≤ 2000000) :
    Calls Tryz.prog 98 #[.agg #[.int .i64 sz, .slice a vs.length c], .slice al left.length cl, .int .i64 x] w fun e w' => e = .returned (.int .i64 (sumV (lsP left x) vs)) ∧ Ext w w' := by
  have HS := hide hS
  clear hS
  go_enter Tryz.func98, Tryz.ntmps98
  go_wp2_with fail
  refine (votersV 148 _ _ (lsP left x) _ sz _ _ vs (hR.ext (by repeat (first | exact Ext.refl _ | assumption | refine Ext.alloc ?_ _ | refine Ext.drew ?_ | refine Ext.trans ?_ (by assumption)))) HS.out Tryz.call148 ?_).mono ?_
  · intro v a' c' w' hv hw' hRv hc'
    exact lastCl w' _ _ al a' cl c' left v.1 x (hw'.keep (by go_simp)) (hw'.keep (by go_simp)) (hL.ext ((show Ext w _ from (by repeat (first | exact Ext.refl _ | assumption | refine Ext.alloc ?_ _ | refine Ext.drew ?_ | refine Ext.trans ?_ (by assumption)))).trans hw')) hRv (by have := (rk_len (HS.out.2 v hv).1).2; omega) hll
  rintro e w1 ⟨rfl, hw1⟩
  go_wp2
  go_ret
  exact ⟨rfl, (by repeat (first | exact Ext.refl _ | assumption | refine Ext.alloc ?_ _ | refine Ext.drew ?_ | refine Ext.trans ?_ (by assumption)))⟩

set_option maxRecDepth 100000 in
set_option maxHeartbeats 1000000 in
theorem firstIn (w : World) (g1 g2 : Nat) (a : Option Addr) (c : Nat) (xs : List Int) (x b : Int) (h1 : w.cell? ⟨g1, 0, none⟩ = some (.slice a xs.length c)) (h2 : w.cell? ⟨g2, 0, none⟩ = some (.int .i64 x)) (hR : RdI w a xs) (hl : xs.length ≤ 2000000) :
    Calls Tryz.prog 147 #[.int .i64 b, .pointer (some ⟨g1, 0, none⟩), .pointer (some ⟨g2, 0, none⟩)] w fun e w' => e = .returned (.bool (prefB xs b x)) ∧ Ext w w' := by
  go_enter Tryz.func147, Tryz.ntmps147
  go_wp2_with (go_at_call 62; refine (pref_impl _ _ _ _ _ _ (hR.ext (by repeat (first | exact Ext.refl _ | assumption | refine Ext.alloc ?_ _ | refine Ext.drew ?_ | refine Ext.trans ?_ (by assumption)))) hl).mono ?_; rintro e w1 ⟨rfl, hw1⟩)
  go_ret
  exact ⟨rfl, (by repeat (first | exact Ext.refl _ | assumption | refine Ext.alloc ?_ _ | refine Ext.drew ?_ | refine Ext.trans ?_ (by assumption)))⟩

set_option maxRecDepth 100000 in
set_option maxHeartbeats 1000000 in
theorem firstCl (w : World) (gl ga : Nat) (al a : Option Addr) (cl c : Nat) (left xs : List Int) (x : Int) (h1 : w.cell? ⟨gl, 0, none⟩ = some (.slice al left.length cl)) (h2 : w.cell? ⟨ga, 0, none⟩ = some (.int .i64 x)) (hL : RdI w al left) (hR : RdI w a xs) (hl : xs.length ≤ 2000000) (hll : left.length ≤ 2000000) :
    Calls Tryz.prog 145 #[.slice a xs.length c, .pointer (some ⟨gl, 0, none⟩), .pointer (some ⟨ga, 0, none⟩)] w fun e w' => e = .returned (.bool (fsP left x xs)) ∧ Ext w w' := by
  have p0 := new0 w (.slice a xs.length c) [] 36
  have h1' := Ext.keep (Ext.new w (.cells #[.slice a xs.length c] 36)) h1
  have h2' := Ext.keep (Ext.new w (.cells #[.slice a xs.length c] 36)) h2
  go_enter Tryz.func145, Tryz.ntmps145
  go_wp2_with fail
  refine (containsFuncI 147 #[] #[.pointer (some ⟨w.heap.size, 0, none⟩), .pointer (some ⟨ga, 0, none⟩)] (fun b => prefB xs b x) _ al cl left (hL.ext (by repeat (first | exact Ext.refl _ | assumption | refine Ext.alloc ?_ _ | refine Ext.drew ?_ | refine Ext.trans ?_ (by assumption)))) hll Tryz.call147
    (fun b w' _ hw' => firstIn w' _ _ a c xs x b (hw'.keep p0) (hw'.keep h2') (hR.ext ((Ext.new _ _).trans hw')) hl)).mono ?_
  rintro e w1 ⟨rfl, hw1⟩
  go_wp2
  go_ret
  exact ⟨rfl, (by repeat (first | exact Ext.refl _ | assumption | refine Ext.alloc ?_ _ | refine Ext.drew ?_ | refine Ext.trans ?_ (by assumption)))⟩

set_option maxRecDepth 100000 in
set_option maxHeartbeats 1000000 in
theorem first_impl (w : World) (sz : Int) (a al : Option Addr) (c cl : Nat) (vs : List Vt) (left : List Int) (x : Int) (hR : RdV w a vs) (hS : SmallV sz vs) (hL : RdI w al left) (hll : left.length ≤ 2000000) :
    Calls Tryz.prog 96 #[.agg #[.int .i64 sz, .slice a vs.length c], .slice al left.length cl, .int .i64 x] w fun e w' => e = .returned (.int .i64 (sumV (fsP left x) vs)) ∧ Ext w w' := by
  have HS := hide hS
  clear hS
  go_enter Tryz.func96, Tryz.ntmps96
  go_wp2_with fail
  refine (votersV 145 _ _ (fsP left x) _ sz _ _ vs (hR.ext (by repeat (first | exact Ext.refl _ | assumption | refine Ext.alloc ?_ _ | refine Ext.drew ?_ | refine Ext.trans ?_ (by assumption)))) HS.out Tryz.call145 ?_).mono ?_
  · intro v a' c' w' hv hw' hRv hc'
    exact firstCl w' _ _ al a' cl c' left v.1 x (hw'.keep (by go_simp)) (hw'.keep (by go_simp)) (hL.ext ((show Ext w _ from (by repeat (first | exact Ext.refl _ | assumption | refine Ext.alloc ?_ _ | refine Ext.drew ?_ | refine Ext.trans ?_ (by assumption)))).trans hw')) hRv (by have := (rk_len (HS.out.2 v hv).1).2; omega) hll
  rintro e w1 ⟨rfl, hw1⟩
  go_wp2
  go_ret
  exact ⟨rfl, (by repeat (first | exact Ext.refl _ | assumption | refine Ext.alloc ?_ _ | refine Ext.drew ?_ | refine Ext.trans ?_ (by assumption)))⟩

end Go.Proofs.YtilcdnkkabmbfaaGreat
