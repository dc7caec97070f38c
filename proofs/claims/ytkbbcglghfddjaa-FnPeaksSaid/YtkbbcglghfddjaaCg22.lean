/- Transitivity of the beats relation. The top cycle. -/
import Derived.Test.YtkbbcglghfddjaaCg6
import Derived.Test.YtkbbcglghfddjaaCg2
import Derived.Test.YtkbbcglghfddjaaCg3
namespace Go.Proofs.Ytkbbcglghfddjaa
open Go.RowKit

def transC (vs : List Vt) (a b c : Nat) : Bool := !(beatsV vs a b && (beatsV vs b c && !beatsV vs a c))
def transB (n : Nat) (vs : List Vt) (a b : Nat) : Bool := allN n (transC vs a b)
def transA (n : Nat) (vs : List Vt) (a : Nat) : Bool := allN n (transB n vs a)
def transO (sz : Int) (vs : List Vt) : Bool := profOk sz vs && allN sz.toNat (transA sz.toNat vs)
set_option maxRecDepth 100000 in
theorem trans_no {n : Nat} {vs : List Vt} {a b c : Nat} (ha : a < n) (hb : b < n) (hc : c < n) (h : transC vs a b c = false) : allN n (transA n vs) = false :=
  allN_f ha (allN_f hb (allN_f hc h))

set_option maxRecDepth 100000 in
set_option maxHeartbeats 4000000 in
theorem trans_impl (w : World) (sz : Int) (a : Option Addr) (c : Nat) (vs : List Vt) (hR : RdV w a vs) :
    Calls Try.prog 28 #[.agg #[.int .i64 sz, .slice a vs.length c]] w fun e w' => e = .returned (.bool (transO sz vs)) ∧ Ext w w' := by
  have q0 := new0 w (.int .i64 sz) [.slice a vs.length c] 26
  have q1 := new1 w (.int .i64 sz) (.slice a vs.length c) [] 26
  cases h0 : profOk sz vs
  · go_enter Try.func28, Try.ntmps28
    go_wp2_with (go_at_call 17; refine (prof_impl _ _ _ _ _ (hR.ext (by repeat (first | exact Ext.refl _ | assumption | refine Ext.alloc ?_ _ | refine Ext.drew ?_ | refine Ext.trans ?_ (by assumption))))).mono ?_; rintro e w1 ⟨rfl, hw1⟩; have q0 := Ext.keep (w' := w1) (by repeat (first | exact Ext.refl _ | assumption | refine Ext.alloc ?_ _ | refine Ext.drew ?_ | refine Ext.trans ?_ (by assumption))) q0; have q1 := Ext.keep (w' := w1) (by repeat (first | exact Ext.refl _ | assumption | refine Ext.alloc ?_ _ | refine Ext.drew ?_ | refine Ext.trans ?_ (by assumption))) q1)
    go_ret
    exact ⟨ret_bool (by simp [transO, h0]), (by repeat (first | exact Ext.refl _ | assumption | refine Ext.alloc ?_ _ | refine Ext.drew ?_ | refine Ext.trans ?_ (by assumption)))⟩
  obtain ⟨n, rfl, n1, n2⟩ := prof_nat h0
  have HS := hide (prof_small h0)
  go_enter Try.func28, Try.ntmps28
  go_wp2_with (go_at_call 17; refine (prof_impl _ _ _ _ _ (hR.ext (by repeat (first | exact Ext.refl _ | assumption | refine Ext.alloc ?_ _ | refine Ext.drew ?_ | refine Ext.trans ?_ (by assumption))))).mono ?_; rintro e w1 ⟨rfl, hw1⟩; have q0 := Ext.keep (w' := w1) (by repeat (first | exact Ext.refl _ | assumption | refine Ext.alloc ?_ _ | refine Ext.drew ?_ | refine Ext.trans ?_ (by assumption))) q0; have q1 := Ext.keep (w' := w1) (by repeat (first | exact Ext.refl _ | assumption | refine Ext.alloc ?_ _ | refine Ext.drew ?_ | refine Ext.trans ?_ (by assumption))) q1)
  obtain ⟨W0, rfl⟩ : ∃ W0 : World, W0 = w1 := ⟨_, rfl⟩
  have hw : Ext w W0 := (by repeat (first | exact Ext.refl _ | assumption | refine Ext.alloc ?_ _ | refine Ext.drew ?_ | refine Ext.trans ?_ (by assumption)))
  have hR0 := hR.ext hw
  go_loopw [3, 4, 5, 11, 15, 16, 20, 21] (fun _ _ _ i _ _ _ _ wr => ∃ k : Nat, k ≤ n ∧ i = .int .i64 k ∧ Hid (∀ j, j < k → transA n vs j = true) ∧ Ext W0 wr) (fun _ _ _ i _ _ _ _ _ => n - (intOf i).toNat)
  case atStart => exact ⟨0, Nat.zero_le _, rfl, fun j hj => absurd hj (by omega), Ext.refl _⟩
  case round =>
    obtain ⟨i, hi, rfl, hallA, hwr⟩ := hrel
    have q0' := hwr.keep q0
    by_cases hit : i < n
    · go_wp2
      go_loopw [4, 5, 16, 20, 21] (fun _ _ m _ _ wr => ∃ k : Nat, k ≤ n ∧ m = .int .i64 k ∧ Hid (∀ j, j < k → transB n vs i j = true) ∧ Ext W0 wr) (fun _ _ m _ _ _ => n - (intOf m).toNat)
      case atStart => exact ⟨0, Nat.zero_le _, rfl, fun j hj => absurd hj (by omega), hwr⟩
      case round =>
        clear hwr q0'
        obtain ⟨j, hj, rfl, hallB, hwr⟩ := hrel
        have q0' := hwr.keep q0
        by_cases hjt : j < n
        · go_wp2
          go_loopw [5, 21] (fun _ m wr => ∃ k : Nat, k ≤ n ∧ m = .int .i64 k ∧ Hid (∀ l, l < k → transC vs i j l = true) ∧ Ext W0 wr) (fun _ m _ => n - (intOf m).toNat)
          case atStart => exact ⟨0, Nat.zero_le _, rfl, fun j hj => absurd hj (by omega), hwr⟩
          case round =>
            clear hwr q0'
            obtain ⟨k, hk, rfl, hallC, hwr⟩ := hrel
            have q0' := hwr.keep q0
            have q1' := hwr.keep q1
            by_cases hlt : k < n
            · cases h1 : beatsV vs i j <;> cases h2 : beatsV vs j k <;> cases h3 : beatsV vs i k
              all_goals go_wp2_with (go_at_call 61; refine (beats_impl _ _ _ _ _ _ _ (hR0.ext (by repeat (first | exact Ext.refl _ | assumption | refine Ext.alloc ?_ _ | refine Ext.drew ?_ | refine Ext.trans ?_ (by assumption)))) HS.out).mono ?_; rintro e w1 ⟨rfl, hw1⟩; have q0' := Ext.keep (w' := w1) (by repeat (first | exact Ext.refl _ | assumption | refine Ext.alloc ?_ _ | refine Ext.drew ?_ | refine Ext.trans ?_ (by assumption))) q0'; have q1' := Ext.keep (w' := w1) (by repeat (first | exact Ext.refl _ | assumption | refine Ext.alloc ?_ _ | refine Ext.drew ?_ | refine Ext.trans ?_ (by assumption))) q1')
              rotate_left 6
              · go_ret
                exact ⟨ret_bool (by simp [transO, trans_no (vs := vs) hit hjt hlt (by simp [transC, h1, h2, h3])]), (by repeat (first | exact Ext.refl _ | assumption | refine Ext.alloc ?_ _ | refine Ext.drew ?_ | refine Ext.trans ?_ (by assumption)))⟩
              all_goals exact ⟨⟨k + 1, by omega, by go_num, upto_succ hallC.out (by simp [transC, h1, h2, h3]), (by repeat (first | exact Ext.refl _ | assumption | refine Ext.alloc ?_ _ | refine Ext.drew ?_ | refine Ext.trans ?_ (by assumption)))⟩, by simp [intOf]; omega⟩
            · go_wp2
              exact ⟨⟨j + 1, by omega, by go_num, upto_succ hallB.out (allN_t fun l hl => hallC.out l (by omega)), (by repeat (first | exact Ext.refl _ | assumption | refine Ext.alloc ?_ _ | refine Ext.drew ?_ | refine Ext.trans ?_ (by assumption)))⟩, by simp [intOf]; omega⟩
        · go_wp2
          exact ⟨⟨i + 1, by omega, by go_num, upto_succ hallA.out (allN_t fun l hl => hallB.out l (by omega)), (by repeat (first | exact Ext.refl _ | assumption | refine Ext.alloc ?_ _ | refine Ext.drew ?_ | refine Ext.trans ?_ (by assumption)))⟩, by simp [intOf]; omega⟩
    · go_wp2
      go_ret
      exact ⟨ret_bool (by simp [transO, h0, allN_t (n := n) (p := transA n vs) (fun j hj => hallA.out j (by omega))]), (by repeat (first | exact Ext.refl _ | assumption | refine Ext.alloc ?_ _ | refine Ext.drew ?_ | refine Ext.trans ?_ (by assumption)))⟩

set_option maxRecDepth 100000 in
theorem bit_shr {s : Int} (h0 : 0 ≤ s) (h63 : s ≤ 63) {k : Nat} (h : k < 6) : (bits BinOp.and IntKind.i64 (s / 2 ^ k) 1 == 1) = bitAt s k := by
  refine sets (p := fun s => (bits BinOp.and IntKind.i64 (s / 2 ^ k) 1 == 1) = bitAt s k) (fun n hn => ?_) h0 h63
  have : k = 0 ∨ k = 1 ∨ k = 2 ∨ k = 3 ∨ k = 4 ∨ k = 5 := by omega
  rcases this with rfl | rfl | rfl | rfl | rfl | rfl <;> revert n <;> decide
set_option maxRecDepth 100000 in
theorem bit_shr0 {s : Int} (h0 : 0 ≤ s) (h63 : s ≤ 63) {k : Nat} (h : k < 6) : (bits BinOp.and IntKind.i64 (s / 2 ^ k) 1 == 0) = !bitAt s k := by
  refine sets (p := fun s => (bits BinOp.and IntKind.i64 (s / 2 ^ k) 1 == 0) = !bitAt s k) (fun n hn => ?_) h0 h63
  have : k = 0 ∨ k = 1 ∨ k = 2 ∨ k = 3 ∨ k = 4 ∨ k = 5 := by omega
  rcases this with rfl | rfl | rfl | rfl | rfl | rfl <;> revert n <;> decide
set_option maxRecDepth 100000 in
theorem bit_spec0 {s : Int} (h0 : 0 ≤ s) (h63 : s ≤ 63) {k : Nat} (h : k < 6) : (bits BinOp.and IntKind.i64 s (2 ^ k) == 0) = !bitAt s k := by
  rw [← bit_spec h0 h63 h]; simp [bne]

def restC (vs : List Vt) (s : Int) (i j : Nat) : Bool := !(bitAt s i && (!bitAt s j && !bt vs i j))
def restB (n : Nat) (vs : List Vt) (s : Int) (i : Nat) : Bool := allN n (restC vs s i)
def restA (n : Nat) (vs : List Vt) (s : Int) : Bool := allN n (restB n vs s)
set_option maxRecDepth 100000 in
theorem rest_no {n : Nat} {vs : List Vt} {s : Int} {i j : Nat} (hi : i < n) (hj : j < n) (h : restC vs s i j = false) : restA n vs s = false := allN_f hi (allN_f hj h)

def topI (n : Nat) (vs : List Vt) : Nat → Int
  | 0 => ((2 ^ n - 1 : Nat) : Int)
  | k + 1 => if cntTo ((k + 1 : Nat) : Int) 6 < cntTo (topI n vs k) 6 ∧ restA n vs ((k + 1 : Nat) : Int) = true then ((k + 1 : Nat) : Int) else topI n vs k
def memL (n : Nat) (s : Int) : List Int := upL n (bitAt s)
def topS (n : Nat) (vs : List Vt) : Nat → List Int
  | 0 => []
  | k + 1 => if restA n vs ((k + 1 : Nat) : Int) = true ∧ (topS n vs k = [] ∨ (memL n ((k + 1 : Nat) : Int)).length < (topS n vs k).length) then memL n ((k + 1 : Nat) : Int) else topS n vs k
def topO (sz : Int) (vs : List Vt) : List Int := if profOk sz vs then topS sz.toNat vs (2 ^ sz.toNat - 1) else []

set_option maxRecDepth 100000 in
theorem memL_len (n : Nat) (s : Int) : ((memL n s).length : Int) = cntTo s n := by
  unfold memL upL cntTo
  rw [List.length_map, List.countP_eq_length_filter]
set_option maxRecDepth 100000 in
theorem cnt6 : ∀ n : Nat, n ≤ 5 → ∀ k : Nat, k < 32 → k < 2 ^ n → cntTo (k : Int) n = cntTo (k : Int) 6 := by decide +kernel
set_option maxRecDepth 100000 in
theorem cnt_less : ∀ n : Nat, n ≤ 5 → ∀ k : Nat, k < 32 → k < 2 ^ n - 1 → cntTo (k : Int) 6 < cntTo ((2 ^ n - 1 : Nat) : Int) 6 := by decide +kernel
set_option maxRecDepth 100000 in
theorem cnt_pos : ∀ k : Nat, k < 32 → 1 ≤ k → 1 ≤ cntTo (k : Int) 6 := by decide +kernel
set_option maxRecDepth 100000 in
theorem full_bit : ∀ n : Nat, n ≤ 5 → ∀ k : Nat, k < 6 → k < n → bitAt ((2 ^ n - 1 : Nat) : Int) k = true := by decide +kernel
set_option maxRecDepth 100000 in
theorem mem_cut0 : ∀ s : Nat, s < 64 → ∀ k : Nat, k < 7 → ∀ n : Nat, n < 7 → (!decide (s < 2 ^ k) || (!decide (s < 2 ^ n) || (memL k (s : Int) == memL n (s : Int)))) = true := by decide +kernel
set_option maxRecDepth 100000 in
theorem mem_cut (s : Nat) (hs : s < 64) (k : Nat) (hk : k < 7) (n : Nat) (hn : n < 7) (h1 : s < 2 ^ k) (h2 : s < 2 ^ n) : memL k (s : Int) = memL n (s : Int) := by
  have h := mem_cut0 s hs k hk n hn
  simpa [h1, h2] using h
set_option maxRecDepth 100000 in
theorem pow_le32 {n : Nat} (h : n ≤ 5) : 2 ^ n ≤ 32 := by
  have : n = 0 ∨ n = 1 ∨ n = 2 ∨ n = 3 ∨ n = 4 ∨ n = 5 := by omega
  rcases this with rfl | rfl | rfl | rfl | rfl | rfl <;> decide
set_option maxRecDepth 100000 in
theorem rest_full {n : Nat} (hn : n ≤ 5) (vs : List Vt) : restA n vs ((2 ^ n - 1 : Nat) : Int) = true :=
  allN_t fun i _ => allN_t fun j hj => by unfold restC; rw [full_bit n hn j (by omega) hj]; simp

set_option maxRecDepth 100000 in
theorem topI_succ (n : Nat) (vs : List Vt) (k s : Nat) (hs : s = k + 1) : topI n vs s = if cntTo (s : Int) 6 < cntTo (topI n vs k) 6 ∧ restA n vs (s : Int) = true then (s : Int) else topI n vs k := by subst hs; rfl
set_option maxRecDepth 100000 in
theorem topS_succ (n : Nat) (vs : List Vt) (k s : Nat) (hs : s = k + 1) : topS n vs s = if restA n vs (s : Int) = true ∧ (topS n vs k = [] ∨ (memL n (s : Int)).length < (topS n vs k).length) then memL n (s : Int) else topS n vs k := by subst hs; rfl
set_option maxRecDepth 100000 in
theorem topI_nat (n : Nat) (vs : List Vt) : ∀ k, k ≤ 2 ^ n - 1 → ∃ t : Nat, topI n vs k = t ∧ t ≤ 2 ^ n - 1
  | 0, _ => ⟨_, rfl, Nat.le_refl _⟩
  | k + 1, hk => by
    unfold topI
    split
    · exact ⟨k + 1, rfl, hk⟩
    · exact topI_nat n vs k (by omega)
set_option maxRecDepth 100000 in
theorem top_rel {n : Nat} (n1 : 1 ≤ n) (hn : n ≤ 5) (vs : List Vt) : ∀ k, k ≤ 2 ^ n - 1 →
    (topS n vs k = [] ∧ topI n vs k = ((2 ^ n - 1 : Nat) : Int) ∧ (k = 2 ^ n - 1 → False)) ∨ (∃ t : Nat, topI n vs k = t ∧ 1 ≤ t ∧ t ≤ 2 ^ n - 1 ∧ topS n vs k = memL n (t : Int))
  | 0, _ => .inl ⟨rfl, rfl, fun h => by
      have : 2 ^ 1 ≤ 2 ^ n := Nat.pow_le_pow_right (by decide) n1
      omega⟩
  | k + 1, hk => by
    have hp := pow_le32 hn
    have h32 : k + 1 < 2 ^ n := by omega
    have hlen : ∀ t : Nat, t ≤ 2 ^ n - 1 → ((memL n (t : Int)).length : Int) = cntTo (t : Int) 6 := fun t ht => by
      rw [memL_len, cnt6 n hn t (by omega) (by omega)]
    rcases top_rel n1 hn vs k (by omega) with ⟨e1, e2, _⟩ | ⟨t, e1, e2, e3, e4⟩
    · by_cases hg : restA n vs ((k + 1 : Nat) : Int) = true
      · refine .inr ⟨k + 1, ?_, by omega, hk, ?_⟩
        · unfold topI
          by_cases hf : k + 1 = 2 ^ n - 1
          · rw [e2]; split
            · rfl
            · rw [hf]
          · rw [if_pos ⟨by rw [e2]; exact cnt_less n hn (k + 1) (by omega) (by omega), hg⟩]
        · unfold topS; rw [if_pos ⟨hg, .inl e1⟩]
      · refine .inl ⟨?_, ?_, fun hf => hg (by rw [hf]; exact rest_full hn vs)⟩
        · unfold topS; rw [if_neg (fun h => hg h.1)]; exact e1
        · unfold topI; rw [if_neg (fun h => hg h.2)]; exact e2
    · have l1 := hlen t e3
      have l2 := hlen (k + 1) hk
      have l3 := cnt_pos t (by omega) e2
      by_cases hc : cntTo ((k + 1 : Nat) : Int) 6 < cntTo (t : Int) 6 ∧ restA n vs ((k + 1 : Nat) : Int) = true
      · refine .inr ⟨k + 1, ?_, by omega, hk, ?_⟩
        · unfold topI; rw [e1, if_pos hc]
        · unfold topS; rw [e4, if_pos ⟨hc.2, .inr (by omega)⟩]
      · refine .inr ⟨t, ?_, e2, e3, ?_⟩
        · unfold topI; rw [e1, if_neg hc]
        · unfold topS; rw [e4, if_neg (fun h => hc ⟨?_, h.1⟩)]
          rcases h.2 with h2 | h2
          · rw [h2] at l1; simp at l1; omega
          · omega
set_option maxRecDepth 100000 in
theorem topO_impl {n : Nat} (n1 : 1 ≤ n) (hn : n ≤ 5) (vs : List Vt) : topS n vs (2 ^ n - 1) = memL n (topI n vs (2 ^ n - 1)) := by
  rcases top_rel n1 hn vs _ (Nat.le_refl _) with ⟨_, _, h⟩ | ⟨t, e1, _, _, e4⟩
  · exact (h rfl).elim
  · rw [e4, e1]
set_option maxRecDepth 100000 in
theorem topS_len (n : Nat) (vs : List Vt) : ∀ k, (topS n vs k).length ≤ n
  | 0 => by simp [topS]
  | k + 1 => by
    unfold topS
    split
    · exact upL_len _ _
    · exact topS_len n vs k
set_option maxRecDepth 100000 in
theorem topO_len (sz : Int) (vs : List Vt) : (topO sz vs).length ≤ 5 := by
  unfold topO
  cases h0 : profOk sz vs
  · simp
  · obtain ⟨n, rfl, n1, n2⟩ := prof_nat h0
    have := topS_len n vs (2 ^ n - 1)
    simp; omega

set_option maxRecDepth 100000 in
theorem shr_pos {s : Int} (h0 : 0 ≤ s) (k : Nat) : (0 < s / 2 ^ k) ↔ ¬ s.toNat < 2 ^ k := by
  obtain ⟨m, rfl⟩ : ∃ m : Nat, s = m := ⟨s.toNat, by omega⟩
  have e : (m : Int) / 2 ^ k = ((m / 2 ^ k : Nat) : Int) := by simp
  rw [e, Int.toNat_natCast]
  have h1 : 0 < 2 ^ k := Nat.pow_pos (by decide)
  constructor
  · intro h h2
    rw [Nat.div_eq_of_lt h2] at h
    simp at h
  · intro h
    have : 1 ≤ m / 2 ^ k := (Nat.one_le_div_iff h1).2 (by omega)
    omega

set_option maxRecDepth 100000 in
set_option maxHeartbeats 1000000 in
theorem members_impl (w : World) (s : Int) (h0 : 0 ≤ s) (h63 : s ≤ 63) (n : Nat) (hn : n ≤ 6) (hs : s.toNat < 2 ^ n) :
    Calls Try.prog 56 #[.int .i64 s] w fun e w' => ∃ v, e = .returned v ∧ OwnI w' w.heap.size v (memL n s) ∧ Ext w w' := by
  have HS := hide hs
  clear hs
  go_enter Try.func56, Try.ntmps56
  go_wp2_with fail
  go_loopw [3, 4] (fun v i wr => ∃ k : Nat, k ≤ 6 ∧ i = .int .i64 k ∧ OwnI wr w.heap.size v (memL k s) ∧ Ext w wr) (fun _ i _ => 6 - (intOf i).toNat)
  case atStart => exact ⟨0, Nat.zero_le _, rfl, OwnI.nil _ _, Ext.refl _⟩
  case round =>
    obtain ⟨k, hk, rfl, hown, hwr⟩ := hrel
    have hsp := shr_pos h0 k
    have hul := upL_len k (bitAt s)
    by_cases hlt : s.toNat < 2 ^ k
    · have hz : ¬ (0 < s / 2 ^ k) := fun h => hsp.1 h hlt
      have HL := hide hlt
      clear hsp hlt
      go_wp2
      go_ret
      refine ⟨_, rfl, ?_, hwr⟩
      obtain ⟨m, rfl⟩ : ∃ m : Nat, s = m := ⟨s.toNat, by omega⟩
      rw [← mem_cut m (by omega) k (by omega) n (by omega) (by simpa using HL.out) (by simpa using HS.out)]
      exact hown
    · have hz : 0 < s / 2 ^ k := hsp.2 hlt
      have hk5 : k < 6 := by
        rcases Nat.lt_or_ge k 6 with h | h
        · exact h
        · have : k = 6 := by omega
          subst this
          exact absurd (show s.toNat < 2 ^ 6 by omega) hlt
      have hb := bit_shr h0 h63 hk5
      clear hsp hlt
      cases hbit : bitAt s k
      · go_wp2
        exact ⟨⟨k + 1, by omega, by go_num, by unfold memL; rw [upL_succ, hbit]; simpa [memL] using hown, (by repeat (first | exact Ext.refl _ | assumption | refine Ext.alloc ?_ _ | refine Ext.drew ?_ | refine Ext.trans ?_ (by assumption)))⟩, by simp [intOf]; omega⟩
      · go_wp2_with (at_builtin; refine wpList_appI w _ rfl _ _ rfl _ (memL k s) _ rfl (hown.ext (by repeat (first | exact Ext.refl _ | assumption | refine Ext.alloc ?_ _ | refine Ext.drew ?_ | refine Ext.trans ?_ (by assumption)))) (by repeat (first | exact Ext.refl _ | assumption | refine Ext.alloc ?_ _ | refine Ext.drew ?_ | refine Ext.trans ?_ (by assumption))) rfl (by unfold memL; omega) ?_; intro v' w3 hown3 hw3)
        exact ⟨⟨k + 1, by omega, by go_num, by unfold memL at hown3 ⊢; rw [upL_succ, hbit]; exact hown3, (by repeat (first | exact Ext.refl _ | assumption | refine Ext.alloc ?_ _ | refine Ext.drew ?_ | refine Ext.trans ?_ (by assumption)))⟩, by simp [intOf]; omega⟩

set_option maxRecDepth 100000 in
theorem OwnI.formL {w : World} {B : Nat} {u : Value} {xs : List Int} (h : OwnI w B u xs) : ∃ a n c, u = .slice a n c ∧ n = xs.length := by
  obtain ⟨a, c, rfl, _⟩ := h.val
  exact ⟨_, _, _, rfl, rfl⟩
set_option maxRecDepth 100000 in
theorem restB_out {n : Nat} {vs : List Vt} {s : Int} {i : Nat} (h : bitAt s i = false) : restB n vs s i = true := allN_t fun j _ => by simp [restC, h]

end Go.Proofs.Ytkbbcglghfddjaa
