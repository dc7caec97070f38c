/- StepCommittee of both packages. -/
import Derived.Test.YtdkkmhncdlaphaaBestC
namespace Go.Proofs.Ytdkkmhncdlaphaa
open Go.RowKit

/-- A set with one candidate more. -/
def addC (s : Int) (a : Nat) : Int := bits BinOp.or IntKind.i64 s (2 ^ a)
theorem addC_nat (n a : Nat) (hn : n < 64) (ha : a < 6) : addC (n : Int) a = ((n ||| 2 ^ a : Nat) : Int) ∧ n ||| 2 ^ a < 64 := by
  have : a = 0 ∨ a = 1 ∨ a = 2 ∨ a = 3 ∨ a = 4 ∨ a = 5 := by omega
  rcases this with rfl | rfl | rfl | rfl | rfl | rfl <;> revert n <;> decide
theorem addC_bd {s : Int} (h0 : 0 ≤ s) (h63 : s ≤ 63) {a : Nat} (ha : a < 6) : 0 ≤ addC s a ∧ addC s a ≤ 63 := by
  obtain ⟨n, rfl⟩ : ∃ n : Nat, s = (n : Int) := ⟨s.toNat, by omega⟩
  obtain ⟨h1, h2⟩ := addC_nat n a (by omega) ha
  rw [h1]; omega
theorem addC_cnt {s : Int} (h0 : 0 ≤ s) (h63 : s ≤ 63) {a : Nat} (ha : a < 6) (hb : bitAt s a = false) {k : Nat} (hk : a < k) (hk6 : k ≤ 6) : cntTo (addC s a) k = cntTo s k + 1 := by
  refine (sets (p := fun s => bitAt s a = false → cntTo (addC s a) k = cntTo s k + 1) (fun n hn => ?_) h0 h63) hb
  have : a = 0 ∨ a = 1 ∨ a = 2 ∨ a = 3 ∨ a = 4 ∨ a = 5 := by omega
  have : k = 1 ∨ k = 2 ∨ k = 3 ∨ k = 4 ∨ k = 5 ∨ k = 6 := by omega
  rename_i h
  rcases h with rfl | rfl | rfl | rfl | rfl | rfl <;> rcases this with rfl | rfl | rfl | rfl | rfl | rfl <;> first | omega | (revert n; decide)

/-- The sets with one candidate more than s, of the first m. -/
def nextTo (s : Int) (m : Nat) : List Int := ((List.range m).filter (fun a => !bitAt s a)).map (addC s)
theorem nextTo_succ (s : Int) (m : Nat) : nextTo s (m + 1) = nextTo s m ++ if bitAt s m = true then [] else [addC s m] := by
  unfold nextTo
  rw [List.range_succ, List.filter_append, List.map_append]
  cases h : bitAt s m <;> simp [h]
theorem nextTo_len (s : Int) (m : Nat) : (nextTo s m).length ≤ m := by
  unfold nextTo
  rw [List.length_map]
  have := List.length_filter_le (fun a => !bitAt s a) (List.range m)
  simpa using this
theorem nextTo_mem {s : Int} {m : Nat} {x : Int} (h : x ∈ nextTo s m) : ∃ a : Nat, a < m ∧ bitAt s a = false ∧ x = addC s a := by
  unfold nextTo at h
  obtain ⟨a, ha, rfl⟩ := List.mem_map.1 h
  rw [List.mem_filter, List.mem_range] at ha
  exact ⟨a, ha.1, by simpa using ha.2, rfl⟩
/-- The set after i steps. -/
def stepTo (bs : List (Int × Int)) (n : Nat) : Nat → Int
  | 0 => 0
  | i + 1 => (bestO (scoreOf bs) (nextTo (stepTo bs n i) n)).getD 0
def stepOf (sz : Int) (bs : List (Int × Int)) (k : Int) : Int := if appOk sz bs && inR k 1 sz then stepTo bs sz.toNat k.toNat else 0
theorem cnt_full {s : Int} {n : Nat} (h : ∀ a, a < n → bitAt s a = true) : cntTo s n = n := by
  unfold cntTo
  have : (List.range n).countP (bitAt s) = n := by
    have h2 := List.countP_eq_length.2 (fun a (ha : a ∈ List.range n) => h a (List.mem_range.1 ha))
    rwa [List.length_range] at h2
  rw [this]
/-- Before step i + 1 ≤ n some candidate is left; the set stays small and has i members. -/
theorem stepTo_inv (bs : List (Int × Int)) (n : Nat) (hn : n ≤ 6) : ∀ i : Nat, i ≤ n → 0 ≤ stepTo bs n i ∧ stepTo bs n i ≤ 63 ∧ cntTo (stepTo bs n i) n = i
  | 0, _ => by
    refine ⟨by simp [stepTo], by simp [stepTo], ?_⟩
    show cntTo 0 n = 0
    unfold cntTo
    have : (List.range n).countP (bitAt 0) = 0 := by
      rw [List.countP_eq_zero]; intro a _; simp [bitAt]
    rw [this]; rfl
  | i + 1, hi => by
    obtain ⟨h0, h1, h2⟩ := stepTo_inv bs n hn i (by omega)
    cases hb : bestO (scoreOf bs) (nextTo (stepTo bs n i) n) with
    | none =>
      exfalso
      have he := bestO_none hb
      have hall : ∀ a, a < n → bitAt (stepTo bs n i) a = true := fun a ha => by
        cases hba : bitAt (stepTo bs n i) a with
        | true => rfl
        | false =>
          have : addC (stepTo bs n i) a ∈ nextTo (stepTo bs n i) n := by
            unfold nextTo
            exact List.mem_map.2 ⟨a, List.mem_filter.2 ⟨List.mem_range.2 ha, by simp [hba]⟩, rfl⟩
          rw [he] at this; cases this
      have := cnt_full hall
      omega
    | some y =>
      have hy := (bestO_congr (f := scoreOf bs) (g := scoreOf bs) (fun _ _ => rfl)).2 y hb
      obtain ⟨a, ha, hba, rfl⟩ := nextTo_mem hy
      have hbd := addC_bd h0 h1 (a := a) (by omega)
      have hc := addC_cnt h0 h1 (a := a) (by omega) hba ha hn
      simp only [stepTo, hb, Option.getD_some]
      exact ⟨hbd.1, hbd.2, by rw [hc, h2]; simp⟩
theorem step_some (bs : List (Int × Int)) (n : Nat) (hn : n ≤ 6) (i : Nat) (hi : i < n) : ∃ y, bestO (scoreOf bs) (nextTo (stepTo bs n i) n) = some y := by
  cases hb : bestO (scoreOf bs) (nextTo (stepTo bs n i) n) with
  | some y => exact ⟨y, rfl⟩
  | none =>
    exfalso
    have h1 := stepTo_inv bs n hn (i + 1) (by omega)
    simp only [stepTo, hb, Option.getD_none] at h1
    have h0 : cntTo 0 n = 0 := by
      unfold cntTo
      have : (List.range n).countP (bitAt 0) = 0 := by
        rw [List.countP_eq_zero]; intro a _; simp [bitAt]
      rw [this]; rfl
    omega

theorem bit_impl0 {s : Int} (h0 : 0 ≤ s) (h63 : s ≤ 63) {k : Nat} (h : k < 6) : (bits BinOp.and IntKind.i64 (s / 2 ^ k) 1 == 0) = !bitAt s k := by
  refine sets (p := fun s => (bits BinOp.and IntKind.i64 (s / 2 ^ k) 1 == 0) = !bitAt s k) (fun n hn => ?_) h0 h63
  have : k = 0 ∨ k = 1 ∨ k = 2 ∨ k = 3 ∨ k = 4 ∨ k = 5 := by omega
  rcases this with rfl | rfl | rfl | rfl | rfl | rfl <;> revert n <;> decide

set_option maxRecDepth 100000 in
set_option maxHeartbeats 8000000 in
theorem step_impl (w : World) (sz k : Int) (a : Option Addr) (c : Nat) (bs : List (Int × Int)) (hR : RdP w a bs) (_ : bs.length ≤ 2000000) :
    Calls Try.prog 29 #[.agg #[.int .i64 sz, .slice a bs.length c], .int .i64 k] w fun e w' => e = .returned (.int .i64 (stepOf sz bs k)) ∧ Ext w w' := by
  have q0 := new0 w (.int .i64 sz) [.slice a bs.length c] 29
  have q1 := new1 w (.int .i64 sz) (.slice a bs.length c) [] 29
  cases h1 : appOk sz bs
  · go_enter Try.func29, Try.ntmps29
    go_wp2_with (go_at_call 46; refine (ok_impl _ _ _ _ _ (hR.ext (by repeat (first | exact Ext.refl _ | assumption | refine Ext.alloc ?_ _ | refine Ext.drew ?_ | refine Ext.trans ?_ (by assumption))))).mono ?_; rintro e w1 ⟨rfl, hw1⟩; have q0 := Ext.keep (w' := w1) (by repeat (first | exact Ext.refl _ | assumption | refine Ext.alloc ?_ _ | refine Ext.drew ?_ | refine Ext.trans ?_ (by assumption))) q0; have q1 := Ext.keep (w' := w1) (by repeat (first | exact Ext.refl _ | assumption | refine Ext.alloc ?_ _ | refine Ext.drew ?_ | refine Ext.trans ?_ (by assumption))) q1)
    go_ret
    exact ⟨ret_int (by simp [stepOf, h1]), (by repeat (first | exact Ext.refl _ | assumption | refine Ext.alloc ?_ _ | refine Ext.drew ?_ | refine Ext.trans ?_ (by assumption)))⟩
  cases h2 : inR k 1 sz
  · go_enter Try.func29, Try.ntmps29
    go_wp2_with (first | (go_at_call 46; refine (ok_impl _ _ _ _ _ (hR.ext (by repeat (first | exact Ext.refl _ | assumption | refine Ext.alloc ?_ _ | refine Ext.drew ?_ | refine Ext.trans ?_ (by assumption))))).mono ?_; rintro e w1 ⟨rfl, hw1⟩; have q0 := Ext.keep (w' := w1) (by repeat (first | exact Ext.refl _ | assumption | refine Ext.alloc ?_ _ | refine Ext.drew ?_ | refine Ext.trans ?_ (by assumption))) q0; have q1 := Ext.keep (w' := w1) (by repeat (first | exact Ext.refl _ | assumption | refine Ext.alloc ?_ _ | refine Ext.drew ?_ | refine Ext.trans ?_ (by assumption))) q1) | (go_at_call 48; refine (in_impl _ _ _ _).mono ?_; rintro e w1 ⟨rfl, hw1⟩))
    go_ret
    exact ⟨ret_int (by simp [stepOf, h2]), (by repeat (first | exact Ext.refl _ | assumption | refine Ext.alloc ?_ _ | refine Ext.drew ?_ | refine Ext.trans ?_ (by assumption)))⟩
  obtain ⟨hlo, hhi⟩ := ok_size h1
  obtain ⟨k1, k2⟩ := inR_iff.1 h2
  obtain ⟨n, rfl⟩ : ∃ n : Nat, sz = (n : Int) := ⟨sz.toNat, by omega⟩
  obtain ⟨kn, rfl⟩ : ∃ kn : Nat, k = (kn : Int) := ⟨k.toNat, by omega⟩
  have HS := hide (small_of h1)
  go_enter Try.func29, Try.ntmps29
  go_wp2_with (first | (go_at_call 46; refine (ok_impl _ _ _ _ _ (hR.ext (by repeat (first | exact Ext.refl _ | assumption | refine Ext.alloc ?_ _ | refine Ext.drew ?_ | refine Ext.trans ?_ (by assumption))))).mono ?_; rintro e w1 ⟨rfl, hw1⟩; have q0 := Ext.keep (w' := w1) (by repeat (first | exact Ext.refl _ | assumption | refine Ext.alloc ?_ _ | refine Ext.drew ?_ | refine Ext.trans ?_ (by assumption))) q0; have q1 := Ext.keep (w' := w1) (by repeat (first | exact Ext.refl _ | assumption | refine Ext.alloc ?_ _ | refine Ext.drew ?_ | refine Ext.trans ?_ (by assumption))) q1) | (go_at_call 48; refine (in_impl _ _ _ _).mono ?_; rintro e w1 ⟨rfl, hw1⟩; have q0 := Ext.keep (w' := w1) (by repeat (first | exact Ext.refl _ | assumption | refine Ext.alloc ?_ _ | refine Ext.drew ?_ | refine Ext.trans ?_ (by assumption))) q0; have q1 := Ext.keep (w' := w1) (by repeat (first | exact Ext.refl _ | assumption | refine Ext.alloc ?_ _ | refine Ext.drew ?_ | refine Ext.trans ?_ (by assumption))) q1))
  have hw : Ext w w1 := (by repeat (first | exact Ext.refl _ | assumption | refine Ext.alloc ?_ _ | refine Ext.drew ?_ | refine Ext.trans ?_ (by assumption)))
  obtain ⟨W0, rfl⟩ : ∃ W0 : World, W0 = w1 := ⟨_, rfl⟩
  go_loopw [5, 19] (fun s i wr => ∃ m : Nat, m ≤ kn ∧ i = .int .i64 m ∧ s = .int .i64 (stepTo bs n m) ∧ Ext W0 wr) (fun _ i _ => kn - (intOf i).toNat)
  case atStart => exact ⟨0, Nat.zero_le _, rfl, rfl, Ext.refl _⟩
  case round =>
    obtain ⟨m, hm, rfl, rfl, hwr⟩ := hrel
    obtain ⟨s0, s63, _⟩ := stepTo_inv bs n (by omega) m (by omega)
    have q0 := hwr.keep q0
    have q1 := hwr.keep q1
    have hww : Ext w wr := hw.trans hwr
    obtain ⟨wo, rfl⟩ : ∃ wo : World, wo = wr := ⟨_, rfl⟩
    by_cases hlt : m < kn
    · have HST := hide (show stepTo bs n (m + 1) = (bestO (scoreOf bs) (nextTo (stepTo bs n m) n)).getD 0 from rfl)
      obtain ⟨S, hS⟩ : ∃ S, S = stepTo bs n m := ⟨_, rfl⟩
      rw [← hS] at s0 s63 HST ⊢
      clear hS
      go_wp2
      go_loopw [6, 23] (fun v i wr => ∃ j : Nat, j ≤ n ∧ i = .int .i64 j ∧ OwnI wr wo.heap.size v (nextTo S j) ∧ Ext wo wr) (fun _ i _ => n - (intOf i).toNat)
      case atStart => exact ⟨0, Nat.zero_le _, rfl, OwnI.nil _ _, Ext.refl _⟩
      case round =>
        obtain ⟨j, hj, rfl, hown, hwr2⟩ := hrel
        have hnl := nextTo_len S j
        by_cases hjn : j < n
        · have hpw := pow_wrap (k := j) (by omega)
          have hbit := bit_impl0 s0 s63 (k := j) (by omega)
          have hadd : bits BinOp.or IntKind.i64 S (2 ^ j) = addC S j := rfl
          have HN := hide (nextTo_succ S j)
          cases hb : bitAt S j
          · go_wp2_with (at_builtin; refine wpList_appI wo _ rfl _ _ rfl _ (nextTo S j) _ rfl (hown.ext (by repeat (first | exact Ext.refl _ | assumption | refine Ext.alloc ?_ _ | refine Ext.drew ?_ | refine Ext.trans ?_ (by assumption)))) (by repeat (first | exact Ext.refl _ | assumption | refine Ext.alloc ?_ _ | refine Ext.drew ?_ | refine Ext.trans ?_ (by assumption))) rfl (by omega) ?_; intro v' w3 hown3 hw3)
            exact ⟨⟨j + 1, by omega, by go_num, by rw [HN.out, hb]; exact hown3, hw3⟩, by simp [intOf]; omega⟩
          · go_wp2
            exact ⟨⟨j + 1, by omega, by go_num, by rw [HN.out, hb]; simpa using hown, hwr2⟩, by simp [intOf]; omega⟩
        · have q0 := hwr2.keep q0
          have q1 := hwr2.keep q1
          obtain rfl : j = n := by omega
          have HB := hide (bestOf_impl 64 #[.agg #[.int .i64 j, .slice a bs.length c]] #[] (scoreOf bs) wr _ _ _ hown.fr.rdB (by omega) (fun _ _ => Try.call64 _ _)
            (fun x w2 hx hw2 => by
              obtain ⟨a', ha', _, rfl⟩ := nextTo_mem hx
              have hbd := addC_bd s0 s63 (a := a') (by omega)
              exact score_impl w2 j _ a c bs (hR.ext (by repeat (first | exact Ext.refl _ | assumption | refine Ext.alloc ?_ _ | refine Ext.drew ?_ | refine Ext.trans ?_ (by assumption)))) HS.out hbd.1 hbd.2))
          go_wp2_with (go_at_call 63; refine (HB.out).mono ?_; rintro e w1 ⟨rfl, hw1⟩)
          exact ⟨⟨m + 1, by omega, by go_num, by rw [HST.out], (by repeat (first | exact Ext.refl _ | assumption | refine Ext.alloc ?_ _ | refine Ext.drew ?_ | refine Ext.trans ?_ (by assumption)))⟩, by simp [intOf]; omega⟩
    · obtain rfl : m = kn := by omega
      go_wp2
      go_ret
      exact ⟨ret_int (by simp [stepOf, h1, h2]), (by repeat (first | exact Ext.refl _ | assumption | refine Ext.alloc ?_ _ | refine Ext.drew ?_ | refine Ext.trans ?_ (by assumption)))⟩

theorem bit_spec0 {s : Int} (h0 : 0 ≤ s) (h63 : s ≤ 63) {k : Nat} (h : k < 6) : (bits BinOp.and IntKind.i64 s (2 ^ k) == 0) = !bitAt s k := by
  rw [← bit_spec h0 h63 h]
  cases h2 : (bits BinOp.and IntKind.i64 s (2 ^ k) == 0) <;> simp [bne, h2]

set_option maxRecDepth 100000 in
set_option maxHeartbeats 8000000 in
theorem step_spec (w : World) (sz k : Int) (a : Option Addr) (c : Nat) (bs : List (Int × Int)) (hR : RdP w a bs) (_ : bs.length ≤ 2000000) :
    Calls Try.prog 28 #[.agg #[.int .i64 sz, .slice a bs.length c], .int .i64 k] w fun e w' => e = .returned (.int .i64 (stepOf sz bs k)) ∧ Ext w w' := by
  have q0 := new0 w (.int .i64 sz) [.slice a bs.length c] 29
  have q1 := new1 w (.int .i64 sz) (.slice a bs.length c) [] 29
  cases h1 : appOk sz bs
  · go_enter Try.func28, Try.ntmps28
    go_wp2_with (go_at_call 42; refine (ok_spec _ _ _ _ _ (hR.ext (by repeat (first | exact Ext.refl _ | assumption | refine Ext.alloc ?_ _ | refine Ext.drew ?_ | refine Ext.trans ?_ (by assumption))))).mono ?_; rintro e w1 ⟨rfl, hw1⟩; have q0 := Ext.keep (w' := w1) (by repeat (first | exact Ext.refl _ | assumption | refine Ext.alloc ?_ _ | refine Ext.drew ?_ | refine Ext.trans ?_ (by assumption))) q0; have q1 := Ext.keep (w' := w1) (by repeat (first | exact Ext.refl _ | assumption | refine Ext.alloc ?_ _ | refine Ext.drew ?_ | refine Ext.trans ?_ (by assumption))) q1)
    go_ret
    exact ⟨ret_int (by simp [stepOf, h1]), (by repeat (first | exact Ext.refl _ | assumption | refine Ext.alloc ?_ _ | refine Ext.drew ?_ | refine Ext.trans ?_ (by assumption)))⟩
  cases h2 : inR k 1 sz
  · go_enter Try.func28, Try.ntmps28
    go_wp2_with (first | (go_at_call 42; refine (ok_spec _ _ _ _ _ (hR.ext (by repeat (first | exact Ext.refl _ | assumption | refine Ext.alloc ?_ _ | refine Ext.drew ?_ | refine Ext.trans ?_ (by assumption))))).mono ?_; rintro e w1 ⟨rfl, hw1⟩; have q0 := Ext.keep (w' := w1) (by repeat (first | exact Ext.refl _ | assumption | refine Ext.alloc ?_ _ | refine Ext.drew ?_ | refine Ext.trans ?_ (by assumption))) q0; have q1 := Ext.keep (w' := w1) (by repeat (first | exact Ext.refl _ | assumption | refine Ext.alloc ?_ _ | refine Ext.drew ?_ | refine Ext.trans ?_ (by assumption))) q1) | (go_at_call 43; refine (in_spec _ _ _ _).mono ?_; rintro e w1 ⟨rfl, hw1⟩))
    go_ret
    exact ⟨ret_int (by simp [stepOf, h2]), (by repeat (first | exact Ext.refl _ | assumption | refine Ext.alloc ?_ _ | refine Ext.drew ?_ | refine Ext.trans ?_ (by assumption)))⟩
  obtain ⟨hlo, hhi⟩ := ok_size h1
  obtain ⟨k1, k2⟩ := inR_iff.1 h2
  obtain ⟨n, rfl⟩ : ∃ n : Nat, sz = (n : Int) := ⟨sz.toNat, by omega⟩
  obtain ⟨kn, rfl⟩ : ∃ kn : Nat, k = (kn : Int) := ⟨k.toNat, by omega⟩
  have HS := hide (small_of h1)
  go_enter Try.func28, Try.ntmps28
  go_wp2_with (first | (go_at_call 42; refine (ok_spec _ _ _ _ _ (hR.ext (by repeat (first | exact Ext.refl _ | assumption | refine Ext.alloc ?_ _ | refine Ext.drew ?_ | refine Ext.trans ?_ (by assumption))))).mono ?_; rintro e w1 ⟨rfl, hw1⟩; have q0 := Ext.keep (w' := w1) (by repeat (first | exact Ext.refl _ | assumption | refine Ext.alloc ?_ _ | refine Ext.drew ?_ | refine Ext.trans ?_ (by assumption))) q0; have q1 := Ext.keep (w' := w1) (by repeat (first | exact Ext.refl _ | assumption | refine Ext.alloc ?_ _ | refine Ext.drew ?_ | refine Ext.trans ?_ (by assumption))) q1) | (go_at_call 43; refine (in_spec _ _ _ _).mono ?_; rintro e w1 ⟨rfl, hw1⟩; have q0 := Ext.keep (w' := w1) (by repeat (first | exact Ext.refl _ | assumption | refine Ext.alloc ?_ _ | refine Ext.drew ?_ | refine Ext.trans ?_ (by assumption))) q0; have q1 := Ext.keep (w' := w1) (by repeat (first | exact Ext.refl _ | assumption | refine Ext.alloc ?_ _ | refine Ext.drew ?_ | refine Ext.trans ?_ (by assumption))) q1))
  have hw : Ext w w1 := (by repeat (first | exact Ext.refl _ | assumption | refine Ext.alloc ?_ _ | refine Ext.drew ?_ | refine Ext.trans ?_ (by assumption)))
  obtain ⟨W0, rfl⟩ : ∃ W0 : World, W0 = w1 := ⟨_, rfl⟩
  go_loopw [5, 6] (fun s i wr => ∃ m : Nat, m ≤ kn ∧ i = .int .i64 m ∧ s = .int .i64 (stepTo bs n m) ∧ Ext W0 wr) (fun _ i _ => kn - (intOf i).toNat)
  case atStart => exact ⟨0, Nat.zero_le _, rfl, rfl, Ext.refl _⟩
  case round =>
    obtain ⟨m, hm, rfl, rfl, hwr⟩ := hrel
    obtain ⟨s0, s63, _⟩ := stepTo_inv bs n (by omega) m (by omega)
    have q0 := hwr.keep q0
    have q1 := hwr.keep q1
    have hww : Ext w wr := hw.trans hwr
    obtain ⟨wo, rfl⟩ : ∃ wo : World, wo = wr := ⟨_, rfl⟩
    by_cases hlt : m < kn
    · have HST := hide (show stepTo bs n (m + 1) = (bestO (scoreOf bs) (nextTo (stepTo bs n m) n)).getD 0 from rfl)
      have HSM := hide (step_some bs n (by omega) m (by omega))
      obtain ⟨S, hS⟩ : ∃ S, S = stepTo bs n m := ⟨_, rfl⟩
      rw [← hS] at s0 s63 HST HSM ⊢
      clear hS
      go_wp2
      go_loopw [7, 8] (fun p i wr => ∃ j : Nat, j ≤ n ∧ i = .int .i64 j ∧ Ext wo wr ∧ ((p = .int .i64 (-1) ∧ Hid (bestO (scoreOf bs) (nextTo S j) = none)) ∨
        ∃ b : Nat, p = .int .i64 b ∧ b < n ∧ Hid (bestO (scoreOf bs) (nextTo S j) = some (addC S b)))) (fun _ i _ => n - (intOf i).toNat)
      case atStart => exact ⟨0, Nat.zero_le _, rfl, Ext.refl _, .inl ⟨rfl, rfl⟩⟩
      case round =>
        obtain ⟨j, hj, rfl, hwr2, hp⟩ := hrel
        have q0 := hwr2.keep q0
        have q1 := hwr2.keep q1
        by_cases hjn : j < n
        · have hpw := pow_wrap (k := j) (by omega)
          have hpw2 : IntKind.i64.wrap (2 ^ j) = 2 ^ j := by rw [IntWalk.i64_left]; exact hpw
          have hbit := bit_spec0 s0 s63 (k := j) (by omega)
          have hadd : bits BinOp.or IntKind.i64 S (2 ^ j) = addC S j := rfl
          have HN := hide (nextTo_succ S j)
          cases hb : bitAt S j
          · have HNN : Hid (bestO (scoreOf bs) (nextTo S (j + 1)) = bestStep (scoreOf bs) (bestO (scoreOf bs) (nextTo S j)) (addC S j)) := by
              show _ = _
              rw [HN.out, hb]
              simp [bestO, List.foldl_append]
            obtain ⟨a0, a63⟩ := addC_bd s0 s63 (a := j) (by omega)
            rcases hp with ⟨rfl, hbn⟩ | ⟨b, rfl, hbl, hbs⟩
            · go_wp2
              refine wp_region_X (by kernel_rfl) (by kernel_rfl) ?_
              repeat' (refine wpX_stepQ (fun K hK => ?_)
                       go_simp
                       try (rw [if_neg (by intro h; simp [undef] at h)])
                       try split
                       all_goals
                         first
                         | (refine hK _ ?_
                            clear hK K)
                         | (apply Exists.intro
                            refine ⟨fun wq hwq => ?_, hK _ ?_⟩
                            · have hcq := hwq.cellS
                              go_simp
                              first
                              | exact ⟨Ext.refl _, rfl⟩
                            clear hK K))
              refine wpX_nil (fun wz hwz => ?_)
              go_wp2
              exact ⟨⟨j + 1, by omega, by go_num, (by repeat (first | exact Ext.refl _ | assumption | refine Ext.alloc ?_ _ | refine Ext.drew ?_ | refine Ext.trans ?_ (by assumption))), .inr ⟨j, rfl, hjn, by show _ = _; rw [HNN.out, hbn.out]; rfl⟩⟩, by simp [intOf]; omega⟩
            · obtain ⟨b0, b63⟩ := addC_bd s0 s63 (a := b) (by omega)
              have hpb : IntKind.i64.wrap (2 ^ b) = 2 ^ b := by rw [IntWalk.i64_left]; exact pow_wrap (by omega)
              have hadb : bits BinOp.or IntKind.i64 S (2 ^ b) = addC S b := rfl
              cases hgt : decide (scoreOf bs (addC S b) < scoreOf bs (addC S j))
              · go_wp2
                refine wp_region_X (by kernel_rfl) (by kernel_rfl) ?_
                repeat' (refine wpX_stepQ (fun K hK => ?_)
                         go_simp
                         try (rw [if_neg (by intro h; simp [undef] at h)])
                         try split
                         all_goals
                           first
                           | (refine hK _ ?_
                              clear hK K)
                           | (apply Exists.intro
                              refine ⟨fun wq hwq => ?_, hK _ ?_⟩
                              · have hcq := hwq.cellS
                                go_simp
                                first
                                | exact ⟨Ext.refl _, rfl⟩
                                | exact ⟨Ext.refl _, score_spec _ _ _ _ _ _ (hR.ext (by repeat (first | exact Ext.refl _ | assumption | refine Ext.alloc ?_ _ | refine Ext.drew ?_ | refine Ext.trans ?_ (by assumption)))) HS.out a0 a63⟩
                                | exact ⟨Ext.refl _, score_spec _ _ _ _ _ _ (hR.ext (by repeat (first | exact Ext.refl _ | assumption | refine Ext.alloc ?_ _ | refine Ext.drew ?_ | refine Ext.trans ?_ (by assumption)))) HS.out b0 b63⟩
                              clear hK K))
                refine wpX_nil (fun wz hwz => ?_)
                go_wp2
                refine ⟨⟨j + 1, by omega, by go_num, (by repeat (first | exact Ext.refl _ | assumption | refine Ext.alloc ?_ _ | refine Ext.drew ?_ | refine Ext.trans ?_ (by assumption))), .inr ⟨b, rfl, hbl, ?_⟩⟩, by simp [intOf]; omega⟩
                show _ = _
                rw [HNN.out, hbs.out]
                simp only [bestStep]
                rw [if_neg (of_decide_eq_false hgt)]
              · go_wp2
                refine wp_region_X (by kernel_rfl) (by kernel_rfl) ?_
                repeat' (refine wpX_stepQ (fun K hK => ?_)
                         go_simp
                         try (rw [if_neg (by intro h; simp [undef] at h)])
                         try split
                         all_goals
                           first
                           | (refine hK _ ?_
                              clear hK K)
                           | (apply Exists.intro
                              refine ⟨fun wq hwq => ?_, hK _ ?_⟩
                              · have hcq := hwq.cellS
                                go_simp
                                first
                                | exact ⟨Ext.refl _, rfl⟩
                                | exact ⟨Ext.refl _, score_spec _ _ _ _ _ _ (hR.ext (by repeat (first | exact Ext.refl _ | assumption | refine Ext.alloc ?_ _ | refine Ext.drew ?_ | refine Ext.trans ?_ (by assumption)))) HS.out a0 a63⟩
                                | exact ⟨Ext.refl _, score_spec _ _ _ _ _ _ (hR.ext (by repeat (first | exact Ext.refl _ | assumption | refine Ext.alloc ?_ _ | refine Ext.drew ?_ | refine Ext.trans ?_ (by assumption)))) HS.out b0 b63⟩
                              clear hK K))
                refine wpX_nil (fun wz hwz => ?_)
                go_wp2
                refine ⟨⟨j + 1, by omega, by go_num, (by repeat (first | exact Ext.refl _ | assumption | refine Ext.alloc ?_ _ | refine Ext.drew ?_ | refine Ext.trans ?_ (by assumption))), .inr ⟨j, rfl, hjn, ?_⟩⟩, by simp [intOf]; omega⟩
                show _ = _
                rw [HNN.out, hbs.out]
                simp only [bestStep]
                rw [if_pos (of_decide_eq_true hgt)]
          · have HNN : Hid (nextTo S (j + 1) = nextTo S j) := by
              show _ = _
              rw [HN.out, hb]
              simp
            go_wp2
            refine wp_region_X (by kernel_rfl) (by kernel_rfl) ?_
            repeat' (refine wpX_stepQ (fun K hK => ?_)
                     go_simp
                     try (rw [if_neg (by intro h; simp [undef] at h)])
                     try split
                     all_goals
                       first
                       | (refine hK _ ?_
                          clear hK K)
                       | (apply Exists.intro
                          refine ⟨fun wq hwq => ?_, hK _ ?_⟩
                          · have hcq := hwq.cellS
                            go_simp
                            first
                            | exact ⟨Ext.refl _, rfl⟩
                          clear hK K))
            refine wpX_nil (fun wz hwz => ?_)
            go_wp2
            refine ⟨⟨j + 1, by omega, by go_num, (by repeat (first | exact Ext.refl _ | assumption | refine Ext.alloc ?_ _ | refine Ext.drew ?_ | refine Ext.trans ?_ (by assumption))), by rw [HNN.out]; exact hp⟩, by simp [intOf]; omega⟩
        · obtain rfl : j = n := by omega
          rcases hp with ⟨_, hbn⟩ | ⟨b, rfl, hbl, hbs⟩
          · exfalso
            obtain ⟨y, hy⟩ := HSM.out
            rw [hbn.out] at hy
            cases hy
          · have hpb := pow_wrap (k := b) (by omega)
            have hadb : bits BinOp.or IntKind.i64 S (2 ^ b) = addC S b := rfl
            go_wp2
            exact ⟨⟨m + 1, by omega, by go_num, by rw [HST.out, hbs.out]; rfl, (by repeat (first | exact Ext.refl _ | assumption | refine Ext.alloc ?_ _ | refine Ext.drew ?_ | refine Ext.trans ?_ (by assumption)))⟩, by simp [intOf]; omega⟩
    · obtain rfl : m = kn := by omega
      go_wp2
      go_ret
      exact ⟨ret_int (by simp [stepOf, h1, h2]), (by repeat (first | exact Ext.refl _ | assumption | refine Ext.alloc ?_ _ | refine Ext.drew ?_ | refine Ext.trans ?_ (by assumption)))⟩
end Go.Proofs.Ytdkkmhncdlaphaa
