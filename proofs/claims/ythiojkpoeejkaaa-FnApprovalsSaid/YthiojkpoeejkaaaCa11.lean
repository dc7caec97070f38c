/- StepCommittee of both packages. Greatest common divisors and fractions in lowest terms, of both sides, for a top that is not negative. -/
import Derived.Test.YthiojkpoeejkaaaCa10
import Derived.Test.YthiojkpoeejkaaaCa9
namespace Go.Proofs.Ythiojkpoeejkaaa
open Go.RowKit

/-- A set with one candidate more. -/
def addC (s : Int) (a : Nat) : Int := bits BinOp.or IntKind.i64 s (2 ^ a)
set_option maxRecDepth 100000 in
theorem addC_nat (n a : Nat) (hn : n < 64) (ha : a < 6) : addC (n : Int) a = ((n ||| 2 ^ a : Nat) : Int) ∧ n ||| 2 ^ a < 64 := by
  have : a = 0 ∨ a = 1 ∨ a = 2 ∨ a = 3 ∨ a = 4 ∨ a = 5 := by omega
  rcases this with rfl | rfl | rfl | rfl | rfl | rfl <;> revert n <;> decide
set_option maxRecDepth 100000 in
theorem addC_bd {s : Int} (h0 : 0 ≤ s) (h63 : s ≤ 63) {a : Nat} (ha : a < 6) : 0 ≤ addC s a ∧ addC s a ≤ 63 := by
  obtain ⟨n, rfl⟩ : ∃ n : Nat, s = (n : Int) := ⟨s.toNat, by omega⟩
  obtain ⟨h1, h2⟩ := addC_nat n a (by omega) ha
  rw [h1]; omega
set_option maxRecDepth 100000 in
theorem addC_cnt {s : Int} (h0 : 0 ≤ s) (h63 : s ≤ 63) {a : Nat} (ha : a < 6) (hb : bitAt s a = false) {k : Nat} (hk : a < k) (hk6 : k ≤ 6) : cntTo (addC s a) k = cntTo s k + 1 := by
  refine (sets (p := fun s => bitAt s a = false → cntTo (addC s a) k = cntTo s k + 1) (fun n hn => ?_) h0 h63) hb
  have : a = 0 ∨ a = 1 ∨ a = 2 ∨ a = 3 ∨ a = 4 ∨ a = 5 := by omega
  have : k = 1 ∨ k = 2 ∨ k = 3 ∨ k = 4 ∨ k = 5 ∨ k = 6 := by omega
  rename_i h
  rcases h with rfl | rfl | rfl | rfl | rfl | rfl <;> rcases this with rfl | rfl | rfl | rfl | rfl | rfl <;> first | omega | (revert n; decide)

/-- The sets with one candidate more than s, of the first m. -/
def nextTo (s : Int) (m : Nat) : List Int := ((List.range m).filter (fun a => !bitAt s a)).map (addC s)
set_option maxRecDepth 100000 in
theorem nextTo_succ (s : Int) (m : Nat) : nextTo s (m + 1) = nextTo s m ++ if bitAt s m = true then [] else [addC s m] := by
  unfold nextTo
  rw [List.range_succ, List.filter_append, List.map_append]
  cases h : bitAt s m <;> simp [h]
set_option maxRecDepth 100000 in
theorem nextTo_len (s : Int) (m : Nat) : (nextTo s m).length ≤ m := by
  unfold nextTo
  rw [List.length_map]
  have := List.length_filter_le (fun a => !bitAt s a) (List.range m)
  simpa using this
set_option maxRecDepth 100000 in
theorem nextTo_mem {s : Int} {m : Nat} {x : Int} (h : x ∈ nextTo s m) : ∃ a : Nat, a < m ∧ bitAt s a = false ∧ x = addC s a := by
  unfold nextTo at h
  obtain ⟨a, ha, rfl⟩ := List.mem_map.1 h
  rw [List.mem_filter, List.mem_range] at ha
  exact ⟨a, ha.1, by simpa using ha.2, rfl⟩
/-- The set after i steps. -/
def stepTo (bs : List (Int × Int)) (n : Nat) : Nat → Int
  | 0 => 0
  | i + 1 => (bestO (scoreOf bs) (nextTo (stepTo bs n i) n)).getD 0
def stepOf (sz : Int) (bs : List (Int × Int)) (k : Int) : Int := if appOk sz bs && inR k 1 sz then stepTo bs sz.toNat k.toNat else 0
set_option maxRecDepth 100000 in
theorem cnt_full {s : Int} {n : Nat} (h : ∀ a, a < n → bitAt s a = true) : cntTo s n = n := by
  unfold cntTo
  have : (List.range n).countP (bitAt s) = n := by
    have h2 := List.countP_eq_length.2 (fun a (ha : a ∈ List.range n) => h a (List.mem_range.1 ha))
    rwa [List.length_range] at h2
  rw [this]
set_option maxRecDepth 100000 in
/-- Before step i + 1 ≤ n some candidate is left; the set stays small and has i members. -/
theorem stepTo_inv (bs : List (Int × Int)) (n : Nat) (hn : n ≤ 6) : ∀ i : Nat, i ≤ n → 0 ≤ stepTo bs n i ∧ stepTo bs n i ≤ 63 ∧ cntTo (stepTo bs n i) n = i
  | 0, _ => by
    refine ⟨by simp [stepTo], by simp [stepTo], ?_⟩
    show cntTo 0 n = 0
    unfold cntTo
    have : (List.range n).countP (bitAt 0) = 0 := by
      rw [List.countP_eq_zero]; intro a _; simp [bitAt]
    rw [this]; rfl
  | i + 1, hi => by
    obtain ⟨h0, h1, h2⟩ := stepTo_inv bs n hn i (by omega)
    cases hb : bestO (scoreOf bs) (nextTo (stepTo bs n i) n) with
    | none =>
      exfalso
      have he := bestO_none hb
      have hall : ∀ a, a < n → bitAt (stepTo bs n i) a = true := fun a ha => by
        cases hba : bitAt (stepTo bs n i) a with
        | true => rfl
        | false =>
          have : addC (stepTo bs n i) a ∈ nextTo (stepTo bs n i) n := by
            unfold nextTo
            exact List.mem_map.2 ⟨a, List.mem_filter.2 ⟨List.mem_range.2 ha, by simp [hba]⟩, rfl⟩
          rw [he] at this; cases this
      have := cnt_full hall
      omega
    | some y =>
      have hy := (bestO_congr (f := scoreOf bs) (g := scoreOf bs) (fun _ _ => rfl)).2 y hb
      obtain ⟨a, ha, hba, rfl⟩ := nextTo_mem hy
      have hbd := addC_bd h0 h1 (a := a) (by omega)
      have hc := addC_cnt h0 h1 (a := a) (by omega) hba ha hn
      simp only [stepTo, hb, Option.getD_some]
      exact ⟨hbd.1, hbd.2, by rw [hc, h2]; simp⟩
set_option maxRecDepth 100000 in
theorem step_some (bs : List (Int × Int)) (n : Nat) (hn : n ≤ 6) (i : Nat) (hi : i < n) : ∃ y, bestO (scoreOf bs) (nextTo (stepTo bs n i) n) = some y := by
  cases hb : bestO (scoreOf bs) (nextTo (stepTo bs n i) n) with
  | some y => exact ⟨y, rfl⟩
  | none =>
    exfalso
    have h1 := stepTo_inv bs n hn (i + 1) (by omega)
    simp only [stepTo, hb, Option.getD_none] at h1
    have h0 : cntTo 0 n = 0 := by
      unfold cntTo
      have : (List.range n).countP (bitAt 0) = 0 := by
        rw [List.countP_eq_zero]; intro a _; simp [bitAt]
      rw [this]; rfl
    omega

set_option maxRecDepth 100000 in
theorem bit_impl0 {s : Int} (h0 : 0 ≤ s) (h63 : s ≤ 63) {k : Nat} (h : k < 6) : (bits BinOp.and IntKind.i64 (s / 2 ^ k) 1 == 0) = !bitAt s k := by
  refine sets (p := fun s => (bits BinOp.and IntKind.i64 (s / 2 ^ k) 1 == 0) = !bitAt s k) (fun n hn => ?_) h0 h63
  have : k = 0 ∨ k = 1 ∨ k = 2 ∨ k = 3 ∨ k = 4 ∨ k = 5 := by omega
  rcases this with rfl | rfl | rfl | rfl | rfl | rfl <;> revert n <;> decide

set_option maxRecDepth 100000 in
set_option maxHeartbeats 8000000 in
theorem step_impl (w : World) (sz k : Int) (a : Option Addr) (c : Nat) (bs : List (Int × Int)) (hR : RdP w a bs) (_ : bs.length ≤ 2000000) :
    Calls Try.prog 14 #[.agg #[.int .i64 sz, .slice a bs.length c], .int .i64 k] w fun e w' => e = .returned (.int .i64 (stepOf sz bs k)) ∧ Ext w w' := by
  have q0 := new0 w (.int .i64 sz) [.slice a bs.length c] 25
  have q1 := new1 w (.int .i64 sz) (.slice a bs.length c) [] 25
  cases h1 : appOk sz bs
  · go_enter Try.func14, Try.ntmps14
    go_wp2_with (go_at_call 16; refine (ok_impl _ _ _ _ _ (hR.ext (by repeat (first | exact Ext.refl _ | assumption | refine Ext.alloc ?_ _ | refine Ext.drew ?_ | refine Ext.trans ?_ (by assumption))))).mono ?_; rintro e w1 ⟨rfl, hw1⟩; have q0 := Ext.keep (w' := w1) (by repeat (first | exact Ext.refl _ | assumption | refine Ext.alloc ?_ _ | refine Ext.drew ?_ | refine Ext.trans ?_ (by assumption))) q0; have q1 := Ext.keep (w' := w1) (by repeat (first | exact Ext.refl _ | assumption | refine Ext.alloc ?_ _ | refine Ext.drew ?_ | refine Ext.trans ?_ (by assumption))) q1)
    go_ret
    exact ⟨ret_int (by simp [stepOf, h1]), (by repeat (first | exact Ext.refl _ | assumption | refine Ext.alloc ?_ _ | refine Ext.drew ?_ | refine Ext.trans ?_ (by assumption)))⟩
  cases h2 : inR k 1 sz
  · go_enter Try.func14, Try.ntmps14
    go_wp2_with (first | (go_at_call 16; refine (ok_impl _ _ _ _ _ (hR.ext (by repeat (first | exact Ext.refl _ | assumption | refine Ext.alloc ?_ _ | refine Ext.drew ?_ | refine Ext.trans ?_ (by assumption))))).mono ?_; rintro e w1 ⟨rfl, hw1⟩; have q0 := Ext.keep (w' := w1) (by repeat (first | exact Ext.refl _ | assumption | refine Ext.alloc ?_ _ | refine Ext.drew ?_ | refine Ext.trans ?_ (by assumption))) q0; have q1 := Ext.keep (w' := w1) (by repeat (first | exact Ext.refl _ | assumption | refine Ext.alloc ?_ _ | refine Ext.drew ?_ | refine Ext.trans ?_ (by assumption))) q1) | (go_at_call 94; refine (in_impl _ _ _ _).mono ?_; rintro e w1 ⟨rfl, hw1⟩))
    go_ret
    exact ⟨ret_int (by simp [stepOf, h2]), (by repeat (first | exact Ext.refl _ | assumption | refine Ext.alloc ?_ _ | refine Ext.drew ?_ | refine Ext.trans ?_ (by assumption)))⟩
  obtain ⟨hlo, hhi⟩ := ok_size h1
  obtain ⟨k1, k2⟩ := inR_iff.1 h2
  obtain ⟨n, rfl⟩ : ∃ n : Nat, sz = (n : Int) := ⟨sz.toNat, by omega⟩
  obtain ⟨kn, rfl⟩ : ∃ kn : Nat, k = (kn : Int) := ⟨k.toNat, by omega⟩
  have HS := hide (small_of h1)
  go_enter Try.func14, Try.ntmps14
  go_wp2_with (first | (go_at_call 16; refine (ok_impl _ _ _ _ _ (hR.ext (by repeat (first | exact Ext.refl _ | assumption | refine Ext.alloc ?_ _ | refine Ext.drew ?_ | refine Ext.trans ?_ (by assumption))))).mono ?_; rintro e w1 ⟨rfl, hw1⟩; have q0 := Ext.keep (w' := w1) (by repeat (first | exact Ext.refl _ | assumption | refine Ext.alloc ?_ _ | refine Ext.drew ?_ | refine Ext.trans ?_ (by assumption))) q0; have q1 := Ext.keep (w' := w1) (by repeat (first | exact Ext.refl _ | assumption | refine Ext.alloc ?_ _ | refine Ext.drew ?_ | refine Ext.trans ?_ (by assumption))) q1) | (go_at_call 94; refine (in_impl _ _ _ _).mono ?_; rintro e w1 ⟨rfl, hw1⟩; have q0 := Ext.keep (w' := w1) (by repeat (first | exact Ext.refl _ | assumption | refine Ext.alloc ?_ _ | refine Ext.drew ?_ | refine Ext.trans ?_ (by assumption))) q0; have q1 := Ext.keep (w' := w1) (by repeat (first | exact Ext.refl _ | assumption | refine Ext.alloc ?_ _ | refine Ext.drew ?_ | refine Ext.trans ?_ (by assumption))) q1))
  have hw : Ext w w1 := (by repeat (first | exact Ext.refl _ | assumption | refine Ext.alloc ?_ _ | refine Ext.drew ?_ | refine Ext.trans ?_ (by assumption)))
  obtain ⟨W0, rfl⟩ : ∃ W0 : World, W0 = w1 := ⟨_, rfl⟩
  go_loopw [5, 19] (fun s i wr => ∃ m : Nat, m ≤ kn ∧ i = .int .i64 m ∧ s = .int .i64 (stepTo bs n m) ∧ Ext W0 wr) (fun _ i _ => kn - (intOf i).toNat)
  case atStart => exact ⟨0, Nat.zero_le _, rfl, rfl, Ext.refl _⟩
  case round =>
    obtain ⟨m, hm, rfl, rfl, hwr⟩ := hrel
    obtain ⟨s0, s63, _⟩ := stepTo_inv bs n (by omega) m (by omega)
    have q0 := hwr.keep q0
    have q1 := hwr.keep q1
    have hww : Ext w wr := hw.trans hwr
    obtain ⟨wo, rfl⟩ : ∃ wo : World, wo = wr := ⟨_, rfl⟩
    by_cases hlt : m < kn
    · have HST := hide (show stepTo bs n (m + 1) = (bestO (scoreOf bs) (nextTo (stepTo bs n m) n)).getD 0 from rfl)
      obtain ⟨S, hS⟩ : ∃ S, S = stepTo bs n m := ⟨_, rfl⟩
      rw [← hS] at s0 s63 HST ⊢
      clear hS
      go_wp2
      go_loopw [6, 23] (fun v i wr => ∃ j : Nat, j ≤ n ∧ i = .int .i64 j ∧ OwnI wr wo.heap.size v (nextTo S j) ∧ Ext wo wr) (fun _ i _ => n - (intOf i).toNat)
      case atStart => exact ⟨0, Nat.zero_le _, rfl, OwnI.nil _ _, Ext.refl _⟩
      case round =>
        obtain ⟨j, hj, rfl, hown, hwr2⟩ := hrel
        have hnl := nextTo_len S j
        by_cases hjn : j < n
        · have hpw := pow_wrap (k := j) (by omega)
          have hbit := bit_impl0 s0 s63 (k := j) (by omega)
          have hadd : bits BinOp.or IntKind.i64 S (2 ^ j) = addC S j := rfl
          have HN := hide (nextTo_succ S j)
          cases hb : bitAt S j
          · go_wp2_with (at_builtin; refine wpList_appI wo _ rfl _ _ rfl _ (nextTo S j) _ rfl (hown.ext (by repeat (first | exact Ext.refl _ | assumption | refine Ext.alloc ?_ _ | refine Ext.drew ?_ | refine Ext.trans ?_ (by assumption)))) (by repeat (first | exact Ext.refl _ | assumption | refine Ext.alloc ?_ _ | refine Ext.drew ?_ | refine Ext.trans ?_ (by assumption))) rfl (by omega) ?_; intro v' w3 hown3 hw3)
            exact ⟨⟨j + 1, by omega, by go_num, by rw [HN.out, hb]; exact hown3, hw3⟩, by simp [intOf]; omega⟩
          · go_wp2
            exact ⟨⟨j + 1, by omega, by go_num, by rw [HN.out, hb]; simpa using hown, hwr2⟩, by simp [intOf]; omega⟩
        · have q0 := hwr2.keep q0
          have q1 := hwr2.keep q1
          obtain rfl : j = n := by omega
          have HB := hide (bestOf_impl 90 #[.agg #[.int .i64 j, .slice a bs.length c]] #[] (scoreOf bs) wr _ _ _ hown.fr.rdB (by omega) (fun _ _ => Try.call90 _ _)
            (fun x w2 hx hw2 => by
              obtain ⟨a', ha', _, rfl⟩ := nextTo_mem hx
              have hbd := addC_bd s0 s63 (a := a') (by omega)
              exact score_impl w2 j _ a c bs (hR.ext (by repeat (first | exact Ext.refl _ | assumption | refine Ext.alloc ?_ _ | refine Ext.drew ?_ | refine Ext.trans ?_ (by assumption)))) HS.out hbd.1 hbd.2))
          go_wp2_with (go_at_call 89; refine (HB.out).mono ?_; rintro e w1 ⟨rfl, hw1⟩)
          exact ⟨⟨m + 1, by omega, by go_num, by rw [HST.out], (by repeat (first | exact Ext.refl _ | assumption | refine Ext.alloc ?_ _ | refine Ext.drew ?_ | refine Ext.trans ?_ (by assumption)))⟩, by simp [intOf]; omega⟩
    · obtain rfl : m = kn := by omega
      go_wp2
      go_ret
      exact ⟨ret_int (by simp [stepOf, h1, h2]), (by repeat (first | exact Ext.refl _ | assumption | refine Ext.alloc ?_ _ | refine Ext.drew ?_ | refine Ext.trans ?_ (by assumption)))⟩

set_option maxRecDepth 100000 in
theorem bit_spec0 {s : Int} (h0 : 0 ≤ s) (h63 : s ≤ 63) {k : Nat} (h : k < 6) : (bits BinOp.and IntKind.i64 s (2 ^ k) == 0) = !bitAt s k := by
  rw [← bit_spec h0 h63 h]
  cases h2 : (bits BinOp.and IntKind.i64 s (2 ^ k) == 0) <;> simp [bne, h2]

set_option maxRecDepth 100000 in
theorem tmod_nat (p q : Nat) : ((p : Int).tmod (q : Int)) = ((p % q : Nat) : Int) := rfl
set_option maxRecDepth 100000 in
theorem tdiv_nat (p q : Nat) : ((p : Int).tdiv (q : Int)) = ((p / q : Nat) : Int) := rfl

set_option maxRecDepth 100000 in
set_option maxHeartbeats 1000000 in
theorem gcd_impl (w : World) (x y : Nat) (hx : x ≤ 1000000000000) (hy : y ≤ 1000000000000) :
    Calls Try.prog 182 #[.int .i64 x, .int .i64 y] w fun e w' => e = .returned (.int .i64 (Nat.gcd x y : Nat)) ∧ Ext w w' := by
  go_enter Try.func182, Try.ntmps182
  go_wp2_with fail
  go_loopw [0, 1] (fun a b wr => ∃ p q : Nat, a = .int .i64 p ∧ b = .int .i64 q ∧ p ≤ 1000000000000 ∧ q ≤ 1000000000000 ∧ Hid (Nat.gcd p q = Nat.gcd x y) ∧ Ext w wr) (fun _ b _ => (intOf b).toNat)
  case atStart => exact ⟨x, y, rfl, rfl, hx, hy, rfl, Ext.refl _⟩
  case round =>
    obtain ⟨p, q, rfl, rfl, hp, hq, hg, hwr⟩ := hrel
    by_cases h0 : q = 0
    · have HG : Hid (Nat.gcd x y = p) := hide (by rw [← hg.out, h0, Nat.gcd_zero_right])
      have i1 : (q : Int) = 0 := by omega
      have y1 : wrap64 (-(p : Int)) = -(p : Int) := IntWalk.wrap64_in _ (by omega)
      have t1 : max (p : Int) (-(p : Int)) = p := by omega
      clear h0
      go_wp2
      all_goals go_ret
      all_goals first | (exact ⟨ret_int (by rw [HG.out]), hwr⟩) | (exact ⟨ret_int (by rw [HG.out]; omega), hwr⟩)
    · have i2 : ¬ (q : Int) = 0 := by omega
      have hm := tmod_nat p q
      have i3 : (q : Int) ≠ 0 := by omega
      have i4 : q ≠ 0 := by omega
      have hlt : p % q < q := Nat.mod_lt p (by omega)
      have HG : Hid (Nat.gcd q (p % q) = Nat.gcd x y) := hide (by rw [← hg.out, Nat.gcd_comm p q, Nat.gcd_rec q p, Nat.gcd_comm])
      clear h0
      generalize p % q = r at hm hlt HG
      go_wp2
      refine wp_region_X (by kernel_rfl) (by kernel_rfl) ?_
      repeat' (refine wpX_stepQ (fun K hK => ?_)
               go_simp
               try (rw [if_neg (by intro h; simp [undef] at h)])
               try split
               all_goals
                 first
                 | (refine hK _ ?_
                    clear hK K)
                 | (apply Exists.intro
                    refine ⟨fun wq hwq => ?_, hK _ ?_⟩
                    · have hcq := hwq.cellS
                      go_simp
                      first
                      | exact ⟨Ext.refl _, rfl⟩
                    clear hK K))
      refine wpX_nil (fun wz hwz => ?_)
      go_wp2
      exact ⟨⟨q, r, rfl, by simp, hq, by omega, HG, hwr.trans hwz⟩, by simp [intOf]; omega⟩

/-- The top and the bottom of a score in lowest terms. -/
def frT (s : Nat) : Nat := s / Nat.gcd s 60
def frB (s : Nat) : Nat := 60 / Nat.gcd s 60
set_option maxRecDepth 100000 in
theorem fr_bd {s : Nat} (hs : s ≤ 5000000) : 1 ≤ Nat.gcd s 60 ∧ Nat.gcd s 60 ≤ 60 ∧ frT s ≤ 5000000 ∧ 1 ≤ frB s ∧ frB s ≤ 60 ∧ Nat.gcd (frT s) (frB s) = 1 := by
  have h1 : 1 ≤ Nat.gcd s 60 := Nat.gcd_pos_of_pos_right _ (by decide)
  have h2 : Nat.gcd s 60 ≤ 60 := Nat.gcd_le_right _ (by decide)
  refine ⟨h1, h2, Nat.le_trans (Nat.div_le_self _ _) hs, ?_, Nat.div_le_self _ _, ?_⟩
  · exact Nat.div_pos h2 h1
  · exact Nat.gcd_div_gcd_div_gcd_of_pos_right (by decide)

set_option maxRecDepth 100000 in
set_option maxHeartbeats 1000000 in
theorem fracOk_impl (w : World) (s : Nat) (hs : s ≤ 5000000) :
    Calls Try.prog 103 #[.agg #[.int .i64 (frT s : Nat), .int .i64 (frB s : Nat)]] w fun e w' => e = .returned (.bool true) ∧ Ext w w' := by
  obtain ⟨h1, h2, h3, h4, h5, h6⟩ := fr_bd hs
  have H6 := hide h6
  generalize frT s = x at h3 H6 ⊢
  generalize frB s = y at h4 h5 H6 ⊢
  have r1 : inR (x : Int) (-1000000000) 1000000000 = true := inR_iff.2 (by omega)
  have r2 : inR (y : Int) 1 1000000000 = true := inR_iff.2 (by omega)
  have y1 : wrap64 (-(x : Int)) = -(x : Int) := IntWalk.wrap64_in _ (by omega)
  have t1 : max (x : Int) (-(x : Int)) = x := by omega
  have HG : Hid (∀ w', Calls Try.prog 182 #[.int .i64 x, .int .i64 y] w' fun e w'' => e = .returned (.int .i64 (1 : Nat)) ∧ Ext w' w'') := fun w' => by
    have h := gcd_impl w' x y (by omega) (by omega)
    rw [H6.out] at h
    exact h
  clear h6 hs h1 h2
  have q0 := new0 w (.int .i64 x) [.int .i64 y] 35
  have q1 := new1 w (.int .i64 x) (.int .i64 y) [] 35
  go_enter Try.func103, Try.ntmps103
  go_wp2_with (first | (go_at_call 94; refine (in_impl _ _ _ _).mono ?_; rintro e w1 ⟨rfl, hw1⟩; have q0 := Ext.keep (w' := w1) (by repeat (first | exact Ext.refl _ | assumption | refine Ext.alloc ?_ _ | refine Ext.drew ?_ | refine Ext.trans ?_ (by assumption))) q0; have q1 := Ext.keep (w' := w1) (by repeat (first | exact Ext.refl _ | assumption | refine Ext.alloc ?_ _ | refine Ext.drew ?_ | refine Ext.trans ?_ (by assumption))) q1) | (go_at_call 182; refine (HG.out _).mono ?_; rintro e w1 ⟨rfl, hw1⟩; have q0 := Ext.keep (w' := w1) (by repeat (first | exact Ext.refl _ | assumption | refine Ext.alloc ?_ _ | refine Ext.drew ?_ | refine Ext.trans ?_ (by assumption))) q0; have q1 := Ext.keep (w' := w1) (by repeat (first | exact Ext.refl _ | assumption | refine Ext.alloc ?_ _ | refine Ext.drew ?_ | refine Ext.trans ?_ (by assumption))) q1))
  all_goals first | (exfalso; omega) | skip
  all_goals go_ret
  all_goals exact ⟨rfl, (by repeat (first | exact Ext.refl _ | assumption | refine Ext.alloc ?_ _ | refine Ext.drew ?_ | refine Ext.trans ?_ (by assumption)))⟩

set_option maxRecDepth 100000 in
theorem tdiv_fr (s : Nat) : ((s : Int).tdiv ((Nat.gcd s 60 : Nat) : Int)) = (frT s : Nat) := rfl
set_option maxRecDepth 100000 in
theorem tdiv_60 (s : Nat) : ((60 : Int).tdiv ((Nat.gcd s 60 : Nat) : Int)) = (frB s : Nat) := rfl

set_option maxRecDepth 100000 in
set_option maxHeartbeats 1000000 in
theorem red_impl (w : World) (s : Nat) (hs : s ≤ 5000000) :
    Calls Try.prog 102 #[.int .i64 s, .int .i64 60] w fun e w' => e = .returned (.tuple #[.agg #[.int .i64 (frT s : Nat), .int .i64 (frB s : Nat)], .bool true]) ∧ Ext w w' := by
  obtain ⟨h1, h2, h3, h4, h5, h6⟩ := fr_bd hs
  have HF := hide (fun w' => fracOk_impl w' s hs)
  have HG : Hid (∀ w', Calls Try.prog 182 #[.int .i64 s, .int .i64 60] w' fun e w'' => e = .returned (.int .i64 (Nat.gcd s 60 : Nat)) ∧ Ext w' w'') := fun w' => gcd_impl w' s 60 (by omega) (by decide)
  have d1 := tdiv_fr s
  have d2 := tdiv_60 s
  generalize frT s = x at HF d1 h3 ⊢
  generalize frB s = y at HF d2 h4 h5 ⊢
  generalize Nat.gcd s 60 = g at HG d1 d2 h1 h2 ⊢
  have i1 : (g : Int) ≠ 0 := by omega
  have i2 : g ≠ 0 := by omega
  have y1 : IntKind.i64.wrap (x : Int) = x := IntWalk.i64_in _ (by omega)
  have y2 : IntKind.i64.wrap (y : Int) = y := IntWalk.i64_in _ (by omega)
  clear h6
  go_enter Try.func102, Try.ntmps102
  go_wp2_with (go_at_call 182; refine (HG.out _).mono ?_; rintro e w1 ⟨rfl, hw1⟩)
  refine wp_region_X (by kernel_rfl) (by kernel_rfl) ?_
  repeat' (refine wpX_stepQ (fun K hK => ?_)
           go_simp
           try (rw [if_neg (by intro h; simp [undef] at h)])
           try split
           all_goals
             first
             | (refine hK _ ?_
                clear hK K)
             | (apply Exists.intro
                refine ⟨fun wq hwq => ?_, hK _ ?_⟩
                · have hcq := hwq.cellS
                  go_simp
                  first
                  | exact ⟨Ext.refl _, rfl⟩
                clear hK K))
  refine wpX_stepS rfl (by kernel_rfl) (fun K hK wq hwq => ?_)
  go_simp
  refine ⟨(by repeat (first | exact Ext.refl _ | assumption | refine Ext.alloc ?_ _ | refine Ext.drew ?_ | refine Ext.trans ?_ (by assumption))), hK _ _ ?_⟩
  clear hK K
  refine wpX_stepL rfl (by kernel_rfl) (by kernel_rfl) (by kernel_rfl) (fun K hK wz hwz => ?_)
  have hcz := hwz.cellS
  have hfz := hwz.frozenS
  go_simp
  refine hK _ _ ?_
  clear hK K
  have b0 := BlkF.new wq #[.int .i64 0, .int .i64 0] 35
  have b1 := ((b0.ext hwz).set 0 (by simp) (.int .i64 x)).set 1 (by simp) (.int .i64 y)
  have p0 := BlkF.new w #[.int .i64 0, .int .i64 0] 35
  have hEq : Ext (w.alloc (.cells #[.int .i64 0, .int .i64 0] 35)) wz := (by repeat (first | exact Ext.refl _ | assumption | refine Ext.alloc ?_ _ | refine Ext.drew ?_ | refine Ext.trans ?_ (by assumption)))
  have hlt : w.heap.size < wq.heap.size := (p0.ext (w' := wq) (by repeat (first | exact Ext.refl _ | assumption | refine Ext.alloc ?_ _ | refine Ext.drew ?_ | refine Ext.trans ?_ (by assumption)))).lt
  have p1 := (((p0.ext hEq).far (p := ⟨wq.heap.size, 0, none⟩) (by show wq.heap.size ≠ w.heap.size; omega) (.int .i64 x)).far (p := ⟨wq.heap.size, 1, none⟩) (by show wq.heap.size ≠ w.heap.size; omega) (.int .i64 y))
  have hEw : Ext w ((wz.setCell ⟨wq.heap.size, 0, none⟩ (.int .i64 x)).setCell ⟨wq.heap.size, 1, none⟩ (.int .i64 y)) := Ext.setCell (Ext.setCell ((Ext.new _ _).trans hEq) (by show w.heap.size ≤ wq.heap.size; omega) _) (by show w.heap.size ≤ wq.heap.size; omega) _
  have c0 := b1.cell 0 (by simp)
  have c1 := b1.cell 1 (by simp)
  have r0 := p1.cell 0 (by simp)
  have r1 := p1.cell 1 (by simp)
  rw [if_neg (by decide), if_pos rfl] at c0
  rw [if_pos rfl] at c1
  have P1 := hide p1
  generalize (wz.setCell ⟨wq.heap.size, 0, none⟩ (.int .i64 x)).setCell ⟨wq.heap.size, 1, none⟩ (.int .i64 y) = W at c0 c1 r0 r1 P1 hEw ⊢
  clear b0 b1 p0 p1 hEq hlt hwz hcz hfz hwq hw1
  go_wp2_with fail
  refine (HF.out _).mono ?_
  rintro e w5 ⟨rfl, hw5⟩
  have c0 := hw5.keep c0
  have c1 := hw5.keep c1
  have r0 := hw5.keep r0
  have r1 := hw5.keep r1
  have z0 := (P1.out.ext hw5).fr 0
  have z1 := (P1.out.ext hw5).fr 1
  go_wp2
  refine bodyPost_ret (v := .tuple #[.agg #[.int .i64 x, .int .i64 y], .bool true]) (by simp [results, Try.results102, go_sem, r0, r1]) rfl ⟨rfl, Ext.setCell (Ext.setCell (hEw.trans hw5) (Nat.le_refl _) _) (Nat.le_refl _) _⟩

end Go.Proofs.Ythiojkpoeejkaaa
