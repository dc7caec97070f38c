/- Eliminations of the reference. -/
import Derived.Test.YtpicmaggkginkaaElimS
namespace Go.Proofs.Ytpicmaggkginkaa
open Go.RowKit

set_option maxRecDepth 100000 in
set_option maxHeartbeats 1000000 in
theorem out_spec (w : World) (a : Option Addr) (c : Nat) (out : List Int) (x : Int) (hR : RdI w a out) (hl : out.length ≤ 2000000) :
    Calls Try.prog 76 #[.slice a out.length c, .int .i64 x] w fun e w' => e = .returned (.bool (hasI out x)) ∧ Ext w w' := by
  have he : decide (0 ≤ placeI out x) = hasI out x := by
    unfold placeI
    rw [findI_nonneg, Bool.eq_iff_iff, List.any_eq_true, hasI_iff]
    constructor
    · rintro ⟨y, hy, h⟩
      have : x = y := by simpa using h
      subst this; exact hy
    · intro h; exact ⟨x, h, by simp⟩
  go_enter Try.func76, Try.ntmps76
  go_wp2_with (go_at_call 63; refine (place_spec _ _ _ _ _ (hR.ext (by repeat (first | exact Ext.refl _ | assumption | refine Ext.alloc ?_ _ | refine Ext.drew ?_ | refine Ext.trans ?_ (by assumption)))) hl).mono ?_; rintro e w1 ⟨rfl, hw1⟩)
  go_ret
  exact ⟨rfl, (by repeat (first | exact Ext.refl _ | assumption | refine Ext.alloc ?_ _ | refine Ext.drew ?_ | refine Ext.trans ?_ (by assumption)))⟩

def numC (out : List Int) (x : Int) (last : Bool) (r : List Int) (b : Nat) : Bool := (((b : Int) == x) || hasI out b) || (prefB r x b != last)
def numP (n : Nat) (out : List Int) (x : Int) (last : Bool) (r : List Int) : Bool := allN n (numC out x last r)

set_option maxRecDepth 100000 in
set_option maxHeartbeats 4000000 in
theorem num_spec (w : World) (n : Nat) (a ao : Option Addr) (c co : Nat) (vs : List Vt) (out : List Int) (x : Int) (last : Bool) (hR : RdV w a vs) (hS : SmallV n vs) (n2 : n ≤ 5) (hO : RdI w ao out) (hol : out.length ≤ 2000000) :
    Calls Try.prog 78 #[.agg #[.int .i64 n, .slice a vs.length c], .slice ao out.length co, .int .i64 x, .bool last] w fun e w' => e = .returned (.int .i64 (sumV (numP n out x last) vs)) ∧ Ext w w' := by
  have HS := hide hS
  have hvl := hS.1
  clear hS
  have q0 := new0 w (.int .i64 n) [.slice a vs.length c] 30
  have q1 := new1 w (.int .i64 n) (.slice a vs.length c) [] 30
  go_enter Try.func78, Try.ntmps78
  go_wp2_with fail
  have h10 := Ext.new w (.cells #[.int .i64 n, .slice a vs.length c] 30)
  generalize w.alloc (.cells #[.int .i64 n, .slice a vs.length c] 30) = W0 at h10 q0 q1 ⊢
  have hR0 := hR.ext h10
  have hO0 := hO.ext h10
  go_loopw [9, 11, 12, 13, 17] (fun s _ _ _ i wr => ∃ k : Nat, k ≤ vs.length ∧ i = .int .i64 k ∧ s = .int .i64 (sumV (numP n out x last) (vs.take k)) ∧ Ext W0 wr) (fun _ _ _ _ i _ => vs.length - (intOf i).toNat)
  case atStart => exact ⟨0, Nat.zero_le _, rfl, rfl, Ext.refl _⟩
  case round =>
    obtain ⟨k, hk, rfl, rfl, hwr⟩ := hrel
    by_cases hlt : k < vs.length
    · obtain ⟨v, hx⟩ := at_of_lt hlt
      obtain ⟨b, off, a', c', rfl, c0, c1, hc', hRx⟩ := (hR0.ext hwr).at_ hx
      obtain ⟨x0, x1, x2⟩ := HS.out.2 v (List.mem_of_getElem? hx)
      have hxl := (rk_len x0).2
      obtain ⟨s1, s2⟩ := sumV_bd HS.out k hk (p := numP n out x last)
      have HX := hide hx
      clear hx x0
      have e0 := new0 wr (.slice a' v.1.length c') [.int .i64 v.2] 88
      have e1 := new1 wr (.slice a' v.1.length c') (.int .i64 v.2) [] 88
      have hE := Ext.new wr (.cells #[.slice a' v.1.length c', .int .i64 v.2] 88)
      go_wp2_with fail
      obtain ⟨gb, hgb⟩ : ∃ gb : Nat, gb = wr.heap.size := ⟨_, rfl⟩
      rw [← hgb] at e0 e1 ⊢
      clear hgb
      generalize wr.alloc (.cells #[.slice a' v.1.length c', .int .i64 v.2] 88) = W1 at e0 e1 hE ⊢
      have hRx := hRx.ext hE
      have hwr := hwr.trans hE
      clear c0 c1 hE
      go_loopw [12, 13] (fun g i wr => ∃ j : Nat, j ≤ n ∧ i = .int .i64 j ∧ g = .bool (allN j (numC out x last v.1)) ∧ Ext W1 wr) (fun _ i _ => n - (intOf i).toNat)
      case atStart => exact ⟨0, Nat.zero_le _, rfl, rfl, Ext.refl _⟩
      case round =>
        obtain ⟨j, hj, rfl, rfl, hwr'⟩ := hrel
        have r0 := (hwr.trans hwr').keep q0
        have e0 := hwr'.keep e0
        have hOr := hO0.ext (hwr.trans hwr')
        have hRr := hRx.ext hwr'
        by_cases hjt : j < n
        · by_cases hb : (j : Int) = x
          · have hb' : ((j : Int) == x) = true := by simpa using hb
            have hc : numC out x last v.1 j = true := by unfold numC; rw [hb']; simp
            have HC := hide hc
            clear hb hc
            go_wp2
            exact ⟨⟨j + 1, by omega, by go_num, by rw [allN_succ, HC.out]; simp, (by repeat (first | exact Ext.refl _ | assumption | refine Ext.alloc ?_ _ | refine Ext.drew ?_ | refine Ext.trans ?_ (by assumption)))⟩, by simp [intOf]; omega⟩
          · have hb' : ((j : Int) == x) = false := by simpa using hb
            have hb2 : ¬ ((j : Int) = x) := hb
            cases ho : hasI out (j : Int)
            · cases hg : allN j (numC out x last v.1)
              · go_wp2_with (go_at_call 76; refine (out_spec _ _ _ _ _ (hOr.ext (by repeat (first | exact Ext.refl _ | assumption | refine Ext.alloc ?_ _ | refine Ext.drew ?_ | refine Ext.trans ?_ (by assumption)))) hol).mono ?_; rintro e w1 ⟨rfl, hw1⟩; have r0 := Ext.keep (w' := w1) (by repeat (first | exact Ext.refl _ | assumption | refine Ext.alloc ?_ _ | refine Ext.drew ?_ | refine Ext.trans ?_ (by assumption))) r0; have e0 := Ext.keep (w' := w1) (by repeat (first | exact Ext.refl _ | assumption | refine Ext.alloc ?_ _ | refine Ext.drew ?_ | refine Ext.trans ?_ (by assumption))) e0)
                exact ⟨⟨j + 1, by omega, by go_num, by rw [allN_succ, hg]; rfl, (by repeat (first | exact Ext.refl _ | assumption | refine Ext.alloc ?_ _ | refine Ext.drew ?_ | refine Ext.trans ?_ (by assumption)))⟩, by simp [intOf]; omega⟩
              · have hc : numC out x last v.1 j = (prefB v.1 x j != last) := by unfold numC; rw [hb', ho]; simp
                have HC := hide hc
                clear hc
                go_wp2_with (first | (go_at_call 76; refine (out_spec _ _ _ _ _ (hOr.ext (by repeat (first | exact Ext.refl _ | assumption | refine Ext.alloc ?_ _ | refine Ext.drew ?_ | refine Ext.trans ?_ (by assumption)))) hol).mono ?_; rintro e w1 ⟨rfl, hw1⟩; have r0 := Ext.keep (w' := w1) (by repeat (first | exact Ext.refl _ | assumption | refine Ext.alloc ?_ _ | refine Ext.drew ?_ | refine Ext.trans ?_ (by assumption))) r0; have e0 := Ext.keep (w' := w1) (by repeat (first | exact Ext.refl _ | assumption | refine Ext.alloc ?_ _ | refine Ext.drew ?_ | refine Ext.trans ?_ (by assumption))) e0) | (go_at_call 108; refine (pref_spec _ _ _ _ _ _ (hRr.ext (by repeat (first | exact Ext.refl _ | assumption | refine Ext.alloc ?_ _ | refine Ext.drew ?_ | refine Ext.trans ?_ (by assumption)))) (by omega)).mono ?_; rintro e w1 ⟨rfl, hw1⟩; have r0 := Ext.keep (w' := w1) (by repeat (first | exact Ext.refl _ | assumption | refine Ext.alloc ?_ _ | refine Ext.drew ?_ | refine Ext.trans ?_ (by assumption))) r0; have e0 := Ext.keep (w' := w1) (by repeat (first | exact Ext.refl _ | assumption | refine Ext.alloc ?_ _ | refine Ext.drew ?_ | refine Ext.trans ?_ (by assumption))) e0))
                exact ⟨⟨j + 1, by omega, by go_num, by rw [allN_succ, hg, HC.out]; cases prefB v.1 x j <;> cases last <;> rfl, (by repeat (first | exact Ext.refl _ | assumption | refine Ext.alloc ?_ _ | refine Ext.drew ?_ | refine Ext.trans ?_ (by assumption)))⟩, by simp [intOf]; omega⟩
            · have hc : numC out x last v.1 j = true := by unfold numC; rw [ho]; simp
              have HC := hide hc
              clear hc
              go_wp2_with (go_at_call 76; refine (out_spec _ _ _ _ _ (hOr.ext (by repeat (first | exact Ext.refl _ | assumption | refine Ext.alloc ?_ _ | refine Ext.drew ?_ | refine Ext.trans ?_ (by assumption)))) hol).mono ?_; rintro e w1 ⟨rfl, hw1⟩; have r0 := Ext.keep (w' := w1) (by repeat (first | exact Ext.refl _ | assumption | refine Ext.alloc ?_ _ | refine Ext.drew ?_ | refine Ext.trans ?_ (by assumption))) r0; have e0 := Ext.keep (w' := w1) (by repeat (first | exact Ext.refl _ | assumption | refine Ext.alloc ?_ _ | refine Ext.drew ?_ | refine Ext.trans ?_ (by assumption))) e0)
              exact ⟨⟨j + 1, by omega, by go_num, by rw [allN_succ, HC.out]; simp, (by repeat (first | exact Ext.refl _ | assumption | refine Ext.alloc ?_ _ | refine Ext.drew ?_ | refine Ext.trans ?_ (by assumption)))⟩, by simp [intOf]; omega⟩
        · have hjn : j = n := by omega
          have e1 := hwr'.keep e1
          have HT : allN j (numC out x last v.1) = numP n out x last v.1 := by rw [hjn]; rfl
          rw [HT]
          clear HT
          cases hp : numP n out x last v.1
          · go_wp2
            exact ⟨⟨k + 1, by omega, by go_num, by rw [sumV_at HX.out, hp]; simp, hwr.trans hwr'⟩, by simp [intOf]; omega⟩
          · go_wp2
            exact ⟨⟨k + 1, by omega, by go_num, by rw [sumV_at HX.out, hp]; simp, hwr.trans hwr'⟩, by simp [intOf]; omega⟩
    · go_wp2
      go_ret
      exact ⟨ret_int (by rw [List.take_of_length_le (by omega)]), h10.trans hwr⟩

set_option maxRecDepth 100000 in
theorem num_first {n : Nat} {vs : List Vt} (hS : SmallV n vs) {x : Nat} (hx : x < n) (out : List Int) : sumV (numP n out x false) vs = worF vs (leftL n out) x := by
  unfold worF
  refine sumV_congr fun v hv => ?_
  have hr := (hS.2 v hv).1
  unfold numP fsP
  rw [Bool.eq_iff_iff, allN_iff, Bool.not_eq_true', List.any_eq_false]
  constructor
  · intro h b hb
    obtain ⟨i, hi, hio, rfl⟩ := leftL_mem.1 hb
    have h1 := h i hi
    have h2 : hasI out (i : Int) = false := by
      cases h3 : hasI out (i : Int)
      · rfl
      · exact absurd (hasI_iff.1 h3) hio
    by_cases e : i = x
    · subst e; rw [pref_self]; simp
    · rw [pref_tot hr hi hx e]
      have h4 : ((i : Int) == (x : Int)) = false := by simp; omega
      simp only [numC, h2, h4] at h1
      simp at h1
      simp [h1]
  · intro h i hi
    unfold numC
    by_cases e : i = x
    · subst e; simp
    · cases h3 : hasI out (i : Int)
      · have h1 := h (i : Int) (leftL_mem.2 ⟨i, hi, (fun h4 => by rw [hasI_iff.2 h4] at h3; cases h3), rfl⟩)
        rw [pref_tot hr hi hx e] at h1
        simp at h1
        simp [h1]
      · simp
set_option maxRecDepth 100000 in
theorem num_last {n : Nat} {vs : List Vt} {x : Nat} (out : List Int) : sumV (numP n out x true) vs = sumV (lsP (leftL n out) x) vs := by
  refine sumV_congr fun v hv => ?_
  unfold numP lsP
  rw [Bool.eq_iff_iff, allN_iff, Bool.not_eq_true', List.any_eq_false]
  constructor
  · intro h b hb
    obtain ⟨i, hi, hio, rfl⟩ := leftL_mem.1 hb
    have h1 := h i hi
    have h2 : hasI out (i : Int) = false := by
      cases h3 : hasI out (i : Int)
      · rfl
      · exact absurd (hasI_iff.1 h3) hio
    by_cases e : i = x
    · subst e; rw [pref_self]; simp
    · have h4 : ((i : Int) == (x : Int)) = false := by simp; omega
      simp only [numC, h2, h4] at h1
      simp at h1
      simp [h1]
  · intro h i hi
    unfold numC
    cases h3 : hasI out (i : Int)
    · have h1 := h (i : Int) (leftL_mem.2 ⟨i, hi, (fun h4 => by rw [hasI_iff.2 h4] at h3; cases h3), rfl⟩)
      simp at h1
      simp [h1]
    · simp

def sumO (vs : List Vt) (out : List Int) (x : Int) : Nat → Int
  | 0 => 0
  | k + 1 => sumO vs out x k + if !((k : Int) == x) && !hasI out k then pairV vs x k else 0
set_option maxRecDepth 100000 in
theorem sumO_bd {sz : Int} {vs : List Vt} (hS : SmallV sz vs) (out : List Int) (x : Int) : ∀ k : Nat, 0 ≤ sumO vs out x k ∧ sumO vs out x k ≤ 24000 * k
  | 0 => by simp [sumO]
  | k + 1 => by
    have h1 := sumO_bd hS out x k
    have h2 : 0 ≤ pairV vs x k ∧ pairV vs x k ≤ 24000 := sumV_bd' hS
    unfold sumO
    split <;> omega
set_option maxRecDepth 100000 in
theorem pair_self (vs : List Vt) (x : Int) : pairV vs x x = 0 := by
  unfold pairV
  rw [sumV_congr (q := fun _ => false) (fun v _ => pref_self _ _), sumV_none]
set_option maxRecDepth 100000 in
theorem sumO_left (vs : List Vt) (out : List Int) (x : Int) : ∀ k : Nat, sumO vs out x k = worP vs (leftL k out) x
  | 0 => rfl
  | k + 1 => by
    have e : leftL (k + 1) out = leftL k out ++ if notIn out k then [(k : Int)] else [] := upL_succ k (notIn out)
    rw [sumO, sumO_left vs out x k, e]
    unfold worP notIn
    rw [List.map_append, List.sum_append]
    cases h1 : hasI out (k : Int)
    · by_cases h2 : (k : Int) = x
      · subst h2; simp [pair_self]
      · simp [h2]
    · simp

set_option maxRecDepth 100000 in
set_option maxHeartbeats 2000000 in
theorem sum_spec (w : World) (n : Nat) (a ao : Option Addr) (c co : Nat) (vs : List Vt) (out : List Int) (x : Int) (hR : RdV w a vs) (hS : SmallV n vs) (n2 : n ≤ 5) (hO : RdI w ao out) (hol : out.length ≤ 2000000) :
    Calls Try.prog 155 #[.agg #[.int .i64 n, .slice a vs.length c], .slice ao out.length co, .int .i64 x] w fun e w' => e = .returned (.int .i64 (worP vs (leftL n out) x)) ∧ Ext w w' := by
  have HS := hide hS
  clear hS
  rw [← sumO_left]
  have q0 := new0 w (.int .i64 n) [.slice a vs.length c] 30
  have q1 := new1 w (.int .i64 n) (.slice a vs.length c) [] 30
  go_enter Try.func155, Try.ntmps155
  go_wp2_with fail
  have h10 := Ext.new w (.cells #[.int .i64 n, .slice a vs.length c] 30)
  generalize w.alloc (.cells #[.int .i64 n, .slice a vs.length c] 30) = W0 at h10 q0 q1 ⊢
  have hR0 := hR.ext h10
  have hO0 := hO.ext h10
  go_loopw [7, 8] (fun s i wr => ∃ k : Nat, k ≤ n ∧ i = .int .i64 k ∧ s = .int .i64 (sumO vs out x k) ∧ Ext W0 wr) (fun _ i _ => n - (intOf i).toNat)
  case atStart => exact ⟨0, Nat.zero_le _, rfl, rfl, Ext.refl _⟩
  case round =>
    obtain ⟨k, hk, rfl, rfl, hwr⟩ := hrel
    have r0 := hwr.keep q0
    have r1 := hwr.keep q1
    have hRr := hR0.ext hwr
    have hOr := hO0.ext hwr
    by_cases hlt : k < n
    · have b1 := sumO_bd HS.out out x k
      have b2 : 0 ≤ pairV vs x k ∧ pairV vs x k ≤ 24000 := sumV_bd' HS.out
      by_cases hb : (k : Int) = x
      · have hc : sumO vs out x (k + 1) = sumO vs out x k := by rw [sumO, if_neg (by simp [hb])]; simp
        have HC := hide hc
        clear hc
        go_wp2
        exact ⟨⟨k + 1, by omega, by go_num, by rw [HC.out], (by repeat (first | exact Ext.refl _ | assumption | refine Ext.alloc ?_ _ | refine Ext.drew ?_ | refine Ext.trans ?_ (by assumption)))⟩, by simp [intOf]; omega⟩
      · cases ho : hasI out (k : Int)
        · have hc : sumO vs out x (k + 1) = sumO vs out x k + pairV vs x k := by rw [sumO, if_pos (by simp [hb, ho])]
          have HC := hide hc
          clear hc
          go_wp2_with (first | (go_at_call 76; refine (out_spec _ _ _ _ _ (hOr.ext (by repeat (first | exact Ext.refl _ | assumption | refine Ext.alloc ?_ _ | refine Ext.drew ?_ | refine Ext.trans ?_ (by assumption)))) hol).mono ?_; rintro e w1 ⟨rfl, hw1⟩; have r0 := Ext.keep (w' := w1) (by repeat (first | exact Ext.refl _ | assumption | refine Ext.alloc ?_ _ | refine Ext.drew ?_ | refine Ext.trans ?_ (by assumption))) r0; have r1 := Ext.keep (w' := w1) (by repeat (first | exact Ext.refl _ | assumption | refine Ext.alloc ?_ _ | refine Ext.drew ?_ | refine Ext.trans ?_ (by assumption))) r1) | (go_at_call 53; refine (pairI_spec _ _ _ _ _ _ _ (hRr.ext (by repeat (first | exact Ext.refl _ | assumption | refine Ext.alloc ?_ _ | refine Ext.drew ?_ | refine Ext.trans ?_ (by assumption)))) HS.out).mono ?_; rintro e w1 ⟨rfl, hw1⟩; have r0 := Ext.keep (w' := w1) (by repeat (first | exact Ext.refl _ | assumption | refine Ext.alloc ?_ _ | refine Ext.drew ?_ | refine Ext.trans ?_ (by assumption))) r0; have r1 := Ext.keep (w' := w1) (by repeat (first | exact Ext.refl _ | assumption | refine Ext.alloc ?_ _ | refine Ext.drew ?_ | refine Ext.trans ?_ (by assumption))) r1))
          exact ⟨⟨k + 1, by omega, by go_num, by rw [HC.out], (by repeat (first | exact Ext.refl _ | assumption | refine Ext.alloc ?_ _ | refine Ext.drew ?_ | refine Ext.trans ?_ (by assumption)))⟩, by simp [intOf]; omega⟩
        · have hc : sumO vs out x (k + 1) = sumO vs out x k := by rw [sumO, if_neg (by simp [ho])]; simp
          have HC := hide hc
          clear hc
          go_wp2_with (go_at_call 76; refine (out_spec _ _ _ _ _ (hOr.ext (by repeat (first | exact Ext.refl _ | assumption | refine Ext.alloc ?_ _ | refine Ext.drew ?_ | refine Ext.trans ?_ (by assumption)))) hol).mono ?_; rintro e w1 ⟨rfl, hw1⟩; have r0 := Ext.keep (w' := w1) (by repeat (first | exact Ext.refl _ | assumption | refine Ext.alloc ?_ _ | refine Ext.drew ?_ | refine Ext.trans ?_ (by assumption))) r0; have r1 := Ext.keep (w' := w1) (by repeat (first | exact Ext.refl _ | assumption | refine Ext.alloc ?_ _ | refine Ext.drew ?_ | refine Ext.trans ?_ (by assumption))) r1)
          exact ⟨⟨k + 1, by omega, by go_num, by rw [HC.out], (by repeat (first | exact Ext.refl _ | assumption | refine Ext.alloc ?_ _ | refine Ext.drew ?_ | refine Ext.trans ?_ (by assumption)))⟩, by simp [intOf]; omega⟩
    · have hkn : k = n := by omega
      go_wp2
      go_ret
      exact ⟨ret_int (by rw [hkn]), h10.trans hwr⟩

/-- The worth by kind: first places, last places, pairs. -/
def worK (vs : List Vt) (kind : Nat) : List Int → Int → Int := if kind = 0 then worF vs else if kind = 1 then worL vs else worP vs

set_option maxRecDepth 100000 in
set_option maxHeartbeats 2000000 in
theorem bad_spec (w : World) (n : Nat) (a ao : Option Addr) (c co : Nat) (vs : List Vt) (out : List Int) (x : Nat) (kind : Nat) (hk : kind ≤ 2) (hR : RdV w a vs) (hS : SmallV n vs) (n2 : n ≤ 5) (hx : x < n) (hO : RdI w ao out) (hol : out.length ≤ 2000000) :
    Calls Try.prog 132 #[.agg #[.int .i64 n, .slice a vs.length c], .slice ao out.length co, .int .i64 (x : Int), .int .i64 (kind : Int)] w fun e w' => e = .returned (.int .i64 (worK vs kind (leftL n out) x)) ∧ Ext w w' := by
  have HS := hide hS
  have hf := num_first hS hx out
  have hl := num_last (n := n) (vs := vs) (x := x) out
  have hb : 0 ≤ sumV (numP n out x true) vs ∧ sumV (numP n out x true) vs ≤ 24000 := sumV_bd' hS
  have HF := hide hf
  have HL := hide hl
  clear hS hf hl
  have hcase : kind = 0 ∨ kind = 1 ∨ kind = 2 := by omega
  rcases hcase with rfl | rfl | rfl
  · go_enter Try.func132, Try.ntmps132
    go_wp2_with (go_at_call 78; refine (num_spec _ _ _ _ _ _ _ _ _ _ (hR.ext (by repeat (first | exact Ext.refl _ | assumption | refine Ext.alloc ?_ _ | refine Ext.drew ?_ | refine Ext.trans ?_ (by assumption)))) HS.out n2 (hO.ext (by repeat (first | exact Ext.refl _ | assumption | refine Ext.alloc ?_ _ | refine Ext.drew ?_ | refine Ext.trans ?_ (by assumption)))) hol).mono ?_; rintro e w1 ⟨rfl, hw1⟩)
    go_ret
    exact ⟨ret_int HF.out, (by repeat (first | exact Ext.refl _ | assumption | refine Ext.alloc ?_ _ | refine Ext.drew ?_ | refine Ext.trans ?_ (by assumption)))⟩
  · go_enter Try.func132, Try.ntmps132
    go_wp2_with (go_at_call 78; refine (num_spec _ _ _ _ _ _ _ _ _ _ (hR.ext (by repeat (first | exact Ext.refl _ | assumption | refine Ext.alloc ?_ _ | refine Ext.drew ?_ | refine Ext.trans ?_ (by assumption)))) HS.out n2 (hO.ext (by repeat (first | exact Ext.refl _ | assumption | refine Ext.alloc ?_ _ | refine Ext.drew ?_ | refine Ext.trans ?_ (by assumption)))) hol).mono ?_; rintro e w1 ⟨rfl, hw1⟩)
    go_ret
    exact ⟨ret_int (by rw [HL.out]; rfl), (by repeat (first | exact Ext.refl _ | assumption | refine Ext.alloc ?_ _ | refine Ext.drew ?_ | refine Ext.trans ?_ (by assumption)))⟩
  · go_enter Try.func132, Try.ntmps132
    go_wp2_with (go_at_call 155; refine (sum_spec _ _ _ _ _ _ _ _ _ (hR.ext (by repeat (first | exact Ext.refl _ | assumption | refine Ext.alloc ?_ _ | refine Ext.drew ?_ | refine Ext.trans ?_ (by assumption)))) HS.out n2 (hO.ext (by repeat (first | exact Ext.refl _ | assumption | refine Ext.alloc ?_ _ | refine Ext.drew ?_ | refine Ext.trans ?_ (by assumption)))) hol).mono ?_; rintro e w1 ⟨rfl, hw1⟩)
    go_ret
    exact ⟨rfl, (by repeat (first | exact Ext.refl _ | assumption | refine Ext.alloc ?_ _ | refine Ext.drew ?_ | refine Ext.trans ?_ (by assumption)))⟩

end Go.Proofs.Ytpicmaggkginkaa
