/- Profiles in memory: a slice of votes reads as a list of rankings with counts. -/
import Derived.Test.YtacmabdeocmheaaRank
namespace Go.Proofs.Ytacmabdeocmheaa
open Go.RowKit

abbrev Vt := List Int × Int
/-- The slice address a reads as the votes vs. -/
def RdV (w : World) (a : Option Addr) (vs : List Vt) : Prop :=
  vs ≠ [] → ∃ b off, a = some ⟨b, off, none⟩ ∧ ∀ (j : Nat) (x : Vt), vs[j]? = some x → ∃ a' c', w.cell? ⟨b, off + j * 2, none⟩ = some (.slice a' x.1.length c') ∧
    w.cell? ⟨b, off + j * 2 + 1, none⟩ = some (.int .i64 x.2) ∧ x.1.length ≤ c' ∧ RdI w a' x.1
set_option maxRecDepth 100000 in
theorem RdV.ext {w w' : World} {a : Option Addr} {vs : List Vt} (h : RdV w a vs) (hw : Ext w w') : RdV w' a vs := fun hne => by
  obtain ⟨b, off, ha, hc⟩ := h hne
  refine ⟨b, off, ha, fun j x hx => ?_⟩
  obtain ⟨a', c', h0, h1, h2, h3⟩ := hc j x hx
  exact ⟨a', c', hw.keep h0, hw.keep h1, h2, h3.ext hw⟩
set_option maxRecDepth 100000 in
theorem RdV.nil (w : World) (a : Option Addr) : RdV w a [] := fun h => absurd rfl h
set_option maxRecDepth 100000 in
theorem RdV.at_ {w : World} {a : Option Addr} {vs : List Vt} (h : RdV w a vs) {k : Nat} {x : Vt} (hx : vs[k]? = some x) :
    ∃ b off a' c', a = some ⟨b, off, none⟩ ∧ w.cell? ⟨b, off + k * 2, none⟩ = some (.slice a' x.1.length c') ∧ w.cell? ⟨b, off + k * 2 + 1, none⟩ = some (.int .i64 x.2) ∧ x.1.length ≤ c' ∧ RdI w a' x.1 := by
  obtain ⟨b, off, ha, hc⟩ := h (ne_of_at hx)
  obtain ⟨a', c', h⟩ := hc k x hx
  exact ⟨b, off, a', c', ha, h⟩

def vtOk (sz : Int) (x : Vt) : Bool := rkOk sz x.1 && inR x.2 1 1000
def profOk (sz : Int) (vs : List Vt) : Bool := inR sz 1 5 && (decide (vs.length ≤ 24) && vs.all (vtOk sz))

set_option maxRecDepth 100000 in
set_option maxHeartbeats 2000000 in
theorem prof_spec (w : World) (sz : Int) (a : Option Addr) (c : Nat) (vs : List Vt) (hR : RdV w a vs) :
    Calls Try.prog 122 #[.agg #[.int .i64 sz, .slice a vs.length c]] w fun e w' => e = .returned (.bool (profOk sz vs)) ∧ Ext w w' := by
  have q0 := new0 w (.int .i64 sz) [.slice a vs.length c] 43
  have q1 := new1 w (.int .i64 sz) (.slice a vs.length c) [] 43
  cases h1 : inR sz 1 5
  · go_enter Try.func122, Try.ntmps122
    go_wp2_with (go_at_call 113; refine (in_spec _ _ _ _).mono ?_; rintro e w1 ⟨rfl, hw1⟩)
    go_ret
    exact ⟨ret_bool (by simp [profOk, h1]), (by repeat (first | exact Ext.refl _ | assumption | refine Ext.alloc ?_ _ | refine Ext.drew ?_ | refine Ext.trans ?_ (by assumption)))⟩
  by_cases hl : vs.length ≤ 24
  · go_enter Try.func122, Try.ntmps122
    go_wp2_with (go_at_call 113; refine (in_spec _ _ _ _).mono ?_; rintro e w1 ⟨rfl, hw1⟩; have q0 := Ext.keep (w' := w1) (by repeat (first | exact Ext.refl _ | assumption | refine Ext.alloc ?_ _ | refine Ext.drew ?_ | refine Ext.trans ?_ (by assumption))) q0; have q1 := Ext.keep (w' := w1) (by repeat (first | exact Ext.refl _ | assumption | refine Ext.alloc ?_ _ | refine Ext.drew ?_ | refine Ext.trans ?_ (by assumption))) q1)
    obtain ⟨W0, rfl⟩ : ∃ W0 : World, W0 = w1 := ⟨_, rfl⟩
    have hw : Ext w W0 := (by repeat (first | exact Ext.refl _ | assumption | refine Ext.alloc ?_ _ | refine Ext.drew ?_ | refine Ext.trans ?_ (by assumption)))
    go_loopw [4, 18] (fun _ i wr => ∃ k : Nat, k ≤ vs.length ∧ i = .int .i64 k ∧ Hid ((vs.take k).all (vtOk sz) = true) ∧ Ext W0 wr) (fun _ i _ => vs.length - (intOf i).toNat)
    case atStart => exact ⟨0, Nat.zero_le _, rfl, rfl, Ext.refl _⟩
    case round =>
      obtain ⟨k, hk, rfl, hall, hwr⟩ := hrel
      have q0 := hwr.keep q0
      by_cases hlt : k < vs.length
      · obtain ⟨x, hx⟩ := at_of_lt hlt
        obtain ⟨b, off, a', c', rfl, c0, c1, hc', hRx⟩ := (hR.ext (hw.trans hwr)).at_ hx
        have e0 := new0 wr (.slice a' x.1.length c') [.int .i64 x.2] 138
        have e1 := new1 wr (.slice a' x.1.length c') (.int .i64 x.2) [] 138
        have HX := hide hx
        clear hx
        cases g1 : rkOk sz x.1
        · go_wp2_with (go_at_call 69; refine (rank_spec _ _ _ _ _ (hRx.ext (by repeat (first | exact Ext.refl _ | assumption | refine Ext.alloc ?_ _ | refine Ext.drew ?_ | refine Ext.trans ?_ (by assumption))))).mono ?_; rintro e w1 ⟨rfl, hw1⟩; have e0 := Ext.keep (w' := w1) (by repeat (first | exact Ext.refl _ | assumption | refine Ext.alloc ?_ _ | refine Ext.drew ?_ | refine Ext.trans ?_ (by assumption))) e0; have e1 := Ext.keep (w' := w1) (by repeat (first | exact Ext.refl _ | assumption | refine Ext.alloc ?_ _ | refine Ext.drew ?_ | refine Ext.trans ?_ (by assumption))) e1)
          go_ret
          exact ⟨ret_bool (by simp [profOk, all_false (f := vtOk sz) HX.out (by simp [vtOk, g1])]), (by repeat (first | exact Ext.refl _ | assumption | refine Ext.alloc ?_ _ | refine Ext.drew ?_ | refine Ext.trans ?_ (by assumption)))⟩
        cases g2 : inR x.2 1 1000
        · go_wp2_with (first | (go_at_call 69; refine (rank_spec _ _ _ _ _ (hRx.ext (by repeat (first | exact Ext.refl _ | assumption | refine Ext.alloc ?_ _ | refine Ext.drew ?_ | refine Ext.trans ?_ (by assumption))))).mono ?_; rintro e w1 ⟨rfl, hw1⟩; have e0 := Ext.keep (w' := w1) (by repeat (first | exact Ext.refl _ | assumption | refine Ext.alloc ?_ _ | refine Ext.drew ?_ | refine Ext.trans ?_ (by assumption))) e0; have e1 := Ext.keep (w' := w1) (by repeat (first | exact Ext.refl _ | assumption | refine Ext.alloc ?_ _ | refine Ext.drew ?_ | refine Ext.trans ?_ (by assumption))) e1) | (go_at_call 113; refine (in_spec _ _ _ _).mono ?_; rintro e w1 ⟨rfl, hw1⟩))
          go_ret
          exact ⟨ret_bool (by simp [profOk, all_false (f := vtOk sz) HX.out (by simp [vtOk, g2])]), (by repeat (first | exact Ext.refl _ | assumption | refine Ext.alloc ?_ _ | refine Ext.drew ?_ | refine Ext.trans ?_ (by assumption)))⟩
        · go_wp2_with (first | (go_at_call 69; refine (rank_spec _ _ _ _ _ (hRx.ext (by repeat (first | exact Ext.refl _ | assumption | refine Ext.alloc ?_ _ | refine Ext.drew ?_ | refine Ext.trans ?_ (by assumption))))).mono ?_; rintro e w1 ⟨rfl, hw1⟩; have e0 := Ext.keep (w' := w1) (by repeat (first | exact Ext.refl _ | assumption | refine Ext.alloc ?_ _ | refine Ext.drew ?_ | refine Ext.trans ?_ (by assumption))) e0; have e1 := Ext.keep (w' := w1) (by repeat (first | exact Ext.refl _ | assumption | refine Ext.alloc ?_ _ | refine Ext.drew ?_ | refine Ext.trans ?_ (by assumption))) e1) | (go_at_call 113; refine (in_spec _ _ _ _).mono ?_; rintro e w1 ⟨rfl, hw1⟩))
          exact ⟨⟨k + 1, by omega, by go_num, (all_take HX.out hall.out).trans (by simp [vtOk, g1, g2]), (by repeat (first | exact Ext.refl _ | assumption | refine Ext.alloc ?_ _ | refine Ext.drew ?_ | refine Ext.trans ?_ (by assumption)))⟩, by simp [intOf]; omega⟩
      · go_wp2
        go_ret
        exact ⟨ret_bool (by simp [profOk, h1, hl, all_whole (by omega) hall.out]), hw.trans hwr⟩
  · go_enter Try.func122, Try.ntmps122
    go_wp2_with (go_at_call 113; refine (in_spec _ _ _ _).mono ?_; rintro e w1 ⟨rfl, hw1⟩; have q0 := Ext.keep (w' := w1) (by repeat (first | exact Ext.refl _ | assumption | refine Ext.alloc ?_ _ | refine Ext.drew ?_ | refine Ext.trans ?_ (by assumption))) q0; have q1 := Ext.keep (w' := w1) (by repeat (first | exact Ext.refl _ | assumption | refine Ext.alloc ?_ _ | refine Ext.drew ?_ | refine Ext.trans ?_ (by assumption))) q1)
    go_ret
    exact ⟨ret_bool (by simp [profOk, hl]), (by repeat (first | exact Ext.refl _ | assumption | refine Ext.alloc ?_ _ | refine Ext.drew ?_ | refine Ext.trans ?_ (by assumption)))⟩

set_option maxRecDepth 100000 in
set_option maxHeartbeats 1000000 in
theorem indexFuncV (K : Nat) (fst cap : Array Value) (p : Vt → Bool) (w : World) (a : Option Addr) (c : Nat) (vs : List Vt) (hR : RdV w a vs) (hl : vs.length ≤ 2000000) (hK : Enters Try.prog K)
    (hf : ∀ (x : Vt) (a' : Option Addr) (c' : Nat) (w' : World), x ∈ vs → Ext w w' → RdI w' a' x.1 → x.1.length ≤ c' → Calls Try.prog K (fst.push (.agg #[.slice a' x.1.length c', .int .i64 x.2]) ++ cap) w' fun e w'' => e = .returned (.bool (p x)) ∧ Ext w' w'') :
    Calls Try.prog 253 #[.slice a vs.length c, .func (.func K) fst cap] w fun e w' => e = .returned (.int .i64 (findI p vs)) ∧ Ext w w' := by
  unfold Enters at hK
  have HF := hide hf
  clear hf
  go_enter Try.func253, Try.ntmps253
  go_wp2_with fail
  go_loopw [5, 8] (fun _ i wr => ∃ k : Nat, k ≤ vs.length ∧ i = .int .i64 k ∧ Hid ((vs.take k).all (fun x => !p x) = true) ∧ Ext w wr) (fun _ i _ => vs.length - (intOf i).toNat)
  case atStart => exact ⟨0, Nat.zero_le _, rfl, rfl, Ext.refl _⟩
  case round =>
    obtain ⟨k, hk, rfl, hall, hwr⟩ := hrel
    by_cases hlt : k < vs.length
    · obtain ⟨x, hx⟩ := at_of_lt hlt
      obtain ⟨b, off, a', c', rfl, c0, c1, hc', hRx⟩ := (hR.ext hwr).at_ hx
      have HX := hide hx
      clear hx
      cases hp : p x
      all_goals
        go_wp2_with fail
        refine (HF.out x a' c' wr (List.mem_of_getElem? HX.out) hwr hRx hc').mono ?_
        rintro e w1 ⟨rfl, hw1⟩
        go_wp2
      · exact ⟨⟨k + 1, by omega, by go_num, (all_take HX.out hall.out).trans (by simp [hp]), hwr.trans hw1⟩, by simp [intOf]; omega⟩
      · go_ret
        exact ⟨ret_int (findI_some HX.out hall.out hp).symm, hwr.trans hw1⟩
    · go_wp2
      go_ret
      exact ⟨ret_int (findI_none (all_whole (by omega) hall.out)).symm, hwr⟩

set_option maxRecDepth 100000 in
set_option maxHeartbeats 1000000 in
theorem containsFuncV (K : Nat) (fst cap : Array Value) (p : Vt → Bool) (w : World) (a : Option Addr) (c : Nat) (vs : List Vt) (hR : RdV w a vs) (hl : vs.length ≤ 2000000) (hK : Enters Try.prog K)
    (hf : ∀ (x : Vt) (a' : Option Addr) (c' : Nat) (w' : World), x ∈ vs → Ext w w' → RdI w' a' x.1 → x.1.length ≤ c' → Calls Try.prog K (fst.push (.agg #[.slice a' x.1.length c', .int .i64 x.2]) ++ cap) w' fun e w'' => e = .returned (.bool (p x)) ∧ Ext w' w'') :
    Calls Try.prog 182 #[.slice a vs.length c, .func (.func K) fst cap] w fun e w' => e = .returned (.bool (vs.any p)) ∧ Ext w w' := by
  have H := hide (indexFuncV K fst cap p w a c vs hR hl hK hf)
  clear hf
  go_enter Try.func182, Try.ntmps182
  go_wp2_with fail
  refine H.out.mono ?_
  rintro e w1 ⟨rfl, hw1⟩
  go_wp2
  go_ret
  exact ⟨ret_bool (findI_nonneg p vs), hw1⟩

set_option maxRecDepth 100000 in
set_option maxHeartbeats 1000000 in
theorem profOne_impl (w : World) (sz : Int) (b off : Nat) (a' : Option Addr) (c' : Nat) (x : Vt) (hRx : RdI w a' x.1) (hc' : x.1.length ≤ c')
    (h0 : w.cell? ⟨b, off, none⟩ = some (.int .i64 sz)) :
    Calls Try.prog 183 #[.agg #[.slice a' x.1.length c', .int .i64 x.2], .pointer (some ⟨b, off, none⟩)] w fun e w' => e = .returned (.bool (!vtOk sz x)) ∧ Ext w w' := by
  have e0 := new0 w (.slice a' x.1.length c') [.int .i64 x.2] 138
  have e1 := new1 w (.slice a' x.1.length c') (.int .i64 x.2) [] 138
  cases g1 : rkOk sz x.1
  all_goals
    go_enter Try.func183, Try.ntmps183
    go_wp2_with (first | (go_at_call 178; refine (rank_impl _ _ _ _ _ (hRx.ext (by repeat (first | exact Ext.refl _ | assumption | refine Ext.alloc ?_ _ | refine Ext.drew ?_ | refine Ext.trans ?_ (by assumption)))) hc').mono ?_; rintro e w1 ⟨rfl, hw1⟩; have e0 := Ext.keep (w' := w1) (by repeat (first | exact Ext.refl _ | assumption | refine Ext.alloc ?_ _ | refine Ext.drew ?_ | refine Ext.trans ?_ (by assumption))) e0; have e1 := Ext.keep (w' := w1) (by repeat (first | exact Ext.refl _ | assumption | refine Ext.alloc ?_ _ | refine Ext.drew ?_ | refine Ext.trans ?_ (by assumption))) e1) | (go_at_call 160; refine (in_impl _ _ _ _).mono ?_; rintro e w1 ⟨rfl, hw1⟩))
    go_ret
  · exact ⟨ret_bool (by simp [vtOk, g1]), (by repeat (first | exact Ext.refl _ | assumption | refine Ext.alloc ?_ _ | refine Ext.drew ?_ | refine Ext.trans ?_ (by assumption)))⟩
  · exact ⟨ret_bool (by simp [vtOk, g1]), (by repeat (first | exact Ext.refl _ | assumption | refine Ext.alloc ?_ _ | refine Ext.drew ?_ | refine Ext.trans ?_ (by assumption)))⟩

set_option maxRecDepth 100000 in
set_option maxHeartbeats 1000000 in
theorem prof_impl (w : World) (sz : Int) (a : Option Addr) (c : Nat) (vs : List Vt) (hR : RdV w a vs) :
    Calls Try.prog 63 #[.agg #[.int .i64 sz, .slice a vs.length c]] w fun e w' => e = .returned (.bool (profOk sz vs)) ∧ Ext w w' := by
  cases h1 : inR sz 1 5
  · go_enter Try.func63, Try.ntmps63
    go_wp2_with (go_at_call 160; refine (in_impl _ _ _ _).mono ?_; rintro e w1 ⟨rfl, hw1⟩; have hc1 := hw1.cellS; have hf1 := hw1.frozenS)
    go_ret
    exact ⟨ret_bool (by simp [profOk, h1]), (by repeat (first | exact Ext.refl _ | assumption | refine Ext.alloc ?_ _ | refine Ext.drew ?_ | refine Ext.trans ?_ (by assumption)))⟩
  by_cases hl : vs.length ≤ 24
  · have HC := hide (fun (w1 : World) (hw1 : Ext (w.alloc (.cells #[.int .i64 sz, .slice a vs.length c] 43)) w1) =>
      containsFuncV 183 #[] #[.pointer (some ⟨w.heap.size, 0, none⟩)] (fun x => !vtOk sz x) w1 a c vs (hR.ext hw1.a) (by omega) (fun _ _ => Try.call183 _ _)
        (fun x a' c' w' _ hw' hRx hc' => profOne_impl w' sz _ 0 a' c' x hRx hc' (hw'.keep (hw1.keep (new0 w _ _ _)))))
    go_enter Try.func63, Try.ntmps63
    go_wp2_with (go_at_call 160; refine (in_impl _ _ _ _).mono ?_; rintro e w1 ⟨rfl, hw1⟩; have hc1 := hw1.cellS; have hf1 := hw1.frozenS)
    refine (HC.out _ hw1).mono ?_
    rintro e w2 ⟨rfl, hw2⟩
    go_wp2
    go_ret
    exact ⟨ret_bool (by simp [profOk, h1, hl, any_not]), (by repeat (first | exact Ext.refl _ | assumption | refine Ext.alloc ?_ _ | refine Ext.drew ?_ | refine Ext.trans ?_ (by assumption)))⟩
  · go_enter Try.func63, Try.ntmps63
    go_wp2_with (go_at_call 160; refine (in_impl _ _ _ _).mono ?_; rintro e w1 ⟨rfl, hw1⟩; have hc1 := hw1.cellS; have hf1 := hw1.frozenS)
    go_ret
    exact ⟨ret_bool (by simp [profOk, hl]), (by repeat (first | exact Ext.refl _ | assumption | refine Ext.alloc ?_ _ | refine Ext.drew ?_ | refine Ext.trans ?_ (by assumption)))⟩

end Go.Proofs.Ytacmabdeocmheaa
