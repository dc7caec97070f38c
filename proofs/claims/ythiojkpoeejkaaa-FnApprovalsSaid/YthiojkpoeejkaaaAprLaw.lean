/- FnApprovals answers true at every input. -/
import Derived.Test.YthiojkpoeejkaaaCa8
import Derived.Test.YthiojkpoeejkaaaCa26
import Derived.Test.YthiojkpoeejkaaaCa27
namespace Go.Proofs.Ythiojkpoeejkaaa
open Go.RowKit

/-- A call that returns a value, from a world on. -/
def ValA (K : Nat) (args : Array Value) (W0 : World) (v : Value) : Prop := ∀ W, Ext W0 W → Calls Try.prog K args W fun e w' => e = .returned v ∧ Ext W w'
set_option maxRecDepth 100000 in
theorem ValA.at {K : Nat} {args : Array Value} {W0 : World} {v : Value} (h : ValA K args W0 v) (W : World) (hW : Ext W0 W) : Calls Try.prog K args W fun e w' => e = .returned v ∧ Ext W w' := h W hW
/-- A committee and its score. -/
def scF (p : Nat) : Value := .agg #[.int .i64 (frT p : Nat), .int .i64 (frB p : Nat)]
set_option maxRecDepth 100000 in
theorem comV_at {n : Nat} {es : List (Int × Int)} (h0 : appOk n es = true) {b : Nat} (hb : b < 2 ^ n) : comV n es b = .tuple #[.agg #[.int .i64 (frT (scoreOf es b).toNat : Nat), .int .i64 (frB (scoreOf es b).toNat : Nat)], .bool true] := by
  have ht : topOf (n : Int) + 1 = ((2 ^ n : Nat) : Int) := top_nat
  have e : (appOk n es && inR (b : Int) 0 (topOf n)) = true := by rw [h0, inR_iff.2 (by omega)]; rfl
  unfold comV comT comB
  rw [e]
  rfl
set_option maxRecDepth 100000 in
theorem score_nn {n : Nat} {es : List (Int × Int)} (h0 : appOk n es = true) (b : Int) : 0 ≤ scoreOf es b ∧ scoreOf es b ≤ 4320000 := by
  have hS := small_of h0
  have h := score_bd hS b es.length (Nat.le_refl _)
  rw [List.take_length] at h
  have := hS.1
  unfold scoreOf
  omega
set_option maxRecDepth 100000 in
theorem sgn_ge {p q : Nat} (h : q ≤ p) : ¬ sgnA p q < 0 := by
  unfold sgnA
  rw [if_neg (by omega)]
  split <;> omega
set_option maxRecDepth 100000 in
theorem sgn_eq (p : Nat) : sgnA p p = 0 := by
  unfold sgnA
  rw [if_neg (by omega), if_neg (by omega)]
/-- What all facts about the committees are. -/
structure AprF (n : Nat) (es : List (Int × Int)) (k b c s : Nat) : Prop where
  eb : bestC (scoreOf es) n es k = b
  ec : bestC (coverOf es) n es k = c
  est : stepOf n es k = s
  lb : b < 2 ^ n
  lc : c < 2 ^ n
  ls : s < 2 ^ n
  mb : (b : Int) ∈ commOf n es k
  mc : (c : Int) ∈ commOf n es k
  ms : (s : Int) ∈ commOf n es k
  jb : justOf n es b k = true
  jc : justOf n es c k = true
  cb : cN b = k
  best : ∀ y : Nat, y < 2 ^ n → cN y = k → (scoreOf es y).toNat ≤ (scoreOf es b).toNat
  cs : cN s = k
  one : k = 1 → s = b
set_option maxRecDepth 100000 in
theorem apr_f {n : Nat} {es : List (Int × Int)} (n1 : 1 ≤ n) (n5 : n ≤ 5) (h0 : appOk n es = true) {k : Nat} (k1 : 1 ≤ k) (kn : k ≤ n) : ∃ b c s, AprF n es k b c s := by
  obtain ⟨b, eb, lb, cb, mb⟩ := bestC_f n5 h0 k1 kn (scoreOf es)
  obtain ⟨c, ec, lc, cc, mc⟩ := bestC_f n5 h0 k1 kn (coverOf es)
  obtain ⟨s, est, ls, cs⟩ := step_f n5 h0 k1 kn
  have hk : inR (k : Int) 1 n = true := inR_iff.2 (by omega)
  refine ⟨b, c, s, eb, ec, est, lb, lc, ls, (comm_nat h0 hk).2 ⟨b, rfl, lb, by omega⟩, (comm_nat h0 hk).2 ⟨c, rfl, lc, by omega⟩, (comm_nat h0 hk).2 ⟨s, rfl, ls, by omega⟩, ?_, ?_, cb, fun y hy hyk => ?_, cs, fun h1 => ?_⟩
  · have h := pav_just n5 h0 lb (by omega) (by omega) (fun y hy hyk => mb y hy (by omega))
    rw [cb] at h
    exact h
  · have h := cov_just n5 h0 lc (by omega) (by omega) (fun y hy hyk => mc y hy (by omega))
    rw [cc] at h
    exact h
  · have := mb y hy hyk
    omega
  · subst h1
    have h := step_one n1 n5 h0
    have e1 : ((1 : Nat) : Int) = 1 := rfl
    rw [e1] at eb est
    rw [eb, est] at h
    omega
set_option maxRecDepth 100000 in
theorem comm_at {n : Nat} {es : List (Int × Int)} (h0 : appOk n es = true) {k : Nat} (k1 : 1 ≤ k) (kn : k ≤ n) {i : Nat} {x : Int} (hx : (commOf n es k)[i]? = some x) : ∃ y : Nat, x = y ∧ y < 2 ^ n ∧ cN y = k := by
  obtain ⟨y, e, hy, hk⟩ := (comm_nat h0 (inR_iff.2 (by omega : 1 ≤ (k : Int) ∧ (k : Int) ≤ n))).1 (List.mem_of_getElem? hx)
  exact ⟨y, e, hy, by omega⟩
set_option maxRecDepth 100000 in
theorem scoresOf_at {n : Nat} {es : List (Int × Int)} (h0 : appOk n es = true) : scoresOf n es = scoresTo es n := by unfold scoresOf; rw [if_pos h0, Int.toNat_natCast]
/-- The approvals of the members among the first m. -/
def memS (es : List (Int × Int)) (b m : Nat) : Int := ((List.range m).map (fun a => if b.testBit a then sumIf (fun s => bitAt s a) es else 0)).sum
set_option maxRecDepth 100000 in
theorem memS_succ (es : List (Int × Int)) (b m : Nat) : memS es b (m + 1) = memS es b m + if b.testBit m then sumIf (fun s => bitAt s m) es else 0 := by
  unfold memS
  rw [List.range_succ, List.map_append, List.sum_append]
  simp
set_option maxRecDepth 100000 in
theorem sumIf_small {n : Nat} {es : List (Int × Int)} (h0 : appOk n es = true) (p : Int → Bool) : 0 ≤ sumIf p es ∧ sumIf p es ≤ 12000 := by
  have hS := small_of h0
  have h := sumIf_bd (p := p) hS es.length (Nat.le_refl _)
  rw [List.take_length] at h
  have := hS.1
  omega
set_option maxRecDepth 100000 in
theorem memS_bd {n : Nat} {es : List (Int × Int)} (h0 : appOk n es = true) (b : Nat) : ∀ m, 0 ≤ memS es b m ∧ memS es b m ≤ 12000 * m
  | 0 => by simp [memS]
  | m + 1 => by
    have ih := memS_bd h0 b m
    have h := sumIf_small h0 (fun s => bitAt s m)
    rw [memS_succ]
    split <;> omega
/-- The seats of the first voters. -/
def seaS (es : List (Int × Int)) (b : Nat) : Int := sumM (fun x => x.2 * cntTo (landI (b : Int) x.1) 6) es
set_option maxRecDepth 100000 in
theorem seaS_bd {n : Nat} {es : List (Int × Int)} (h0 : appOk n es = true) (b : Nat) (m : Nat) (hm : m ≤ es.length) : 0 ≤ seaS (es.take m) b ∧ seaS (es.take m) b ≤ 6000 * m :=
  sumM_bd (fun x hx => by
    have h1 := cnt_bd (landI (b : Int) x.1) 6
    have h2 := (small_of h0).2 x hx
    have h3 : 0 ≤ x.2 * cntTo (landI (b : Int) x.1) 6 := Int.mul_nonneg (by omega) (by omega)
    have h4 : x.2 * cntTo (landI (b : Int) x.1) 6 ≤ 1000 * 6 := Int.mul_le_mul (by omega) (by omega) (by omega) (by omega)
    omega) m hm
set_option maxRecDepth 100000 in
theorem seaS_at {es : List (Int × Int)} {b m : Nat} {x : Int × Int} (hx : es[m]? = some x) : seaS (es.take (m + 1)) b = seaS (es.take m) b + x.2 * cntTo (landI (b : Int) x.1) 6 := by unfold seaS; exact sumM_at hx
set_option maxRecDepth 100000 in
theorem seatsFor_at {n : Nat} {es : List (Int × Int)} (h0 : appOk n es = true) {b m : Nat} (hb : b < 2 ^ n) {x : Int × Int} (hx : es[m]? = some x) : seatsFor n es b m = cntTo (landI (b : Int) x.1) 6 := by
  have ht : topOf (n : Int) + 1 = ((2 ^ n : Nat) : Int) := top_nat
  have hl := lt_of_at hx
  unfold seatsFor
  rw [h0, inR_iff.2 (show 0 ≤ (b : Int) ∧ (b : Int) ≤ topOf n by omega), inR_iff.2 (show 0 ≤ (m : Int) ∧ (m : Int) ≤ (es.length : Int) - 1 by omega)]
  simp only [Bool.and_self, if_true, Int.toNat_natCast]
  rw [landI_comm]
  simp [List.getD, hx]

set_option maxRecDepth 100000 in
theorem sT_at {n : Nat} {es : List (Int × Int)} {j : Nat} (hj : j < n) : (scoresTo es n)[j]? = some (sumIf (fun s => bitAt s j) es) := by
  unfold scoresTo
  rw [List.getElem?_map, List.getElem?_range hj]
  rfl

set_option maxRecDepth 100000 in
set_option maxHeartbeats 8000000 in
theorem apr_law (w : World) (a : Option Addr) (c : Nat) (bs : List Int) (hR : RdY w a bs) (_ : bs.length ≤ maxLen) :
    Calls Try.prog 3 #[.slice a bs.length c] w fun e w' => e = .returned (.bool true) ∧ Ext w w' := by
  by_cases hb : bs.length ≤ 1048576
  · go_enter Try.func3, Try.ntmps3
    go_wp2_with fail
    refine (mkapr_spec _ a c 0 bs (hR.ext (by repeat (first | exact Ext.refl _ | assumption | refine Ext.alloc ?_ _ | refine Ext.drew ?_ | refine Ext.trans ?_ (by assumption)))) hb (by omega)).mono ?_
    rintro e w1 ⟨n, a', es, c', rfl, n1, n5, hRP, hel, h0, hcn, hw1⟩
    have q0 := new0 w1 (.int .i64 n) [.slice a' es.length c'] 25
    have q1 := new1 w1 (.int .i64 n) (.slice a' es.length c') [] 25
    have hE := Ext.new w1 (.cells #[.int .i64 n, .slice a' es.length c'] 25)
    go_wp2
    have hw := hw1.trans hE
    have hRP := hRP.ext hE
    have HNUM : Hid (∀ W' (k : Nat), k ≤ 1000 → Ext w W' → Calls Try.prog 11 #[.slice a bs.length c, .int .i64 k] W' fun e w' => ∃ x : Nat, e = .returned (.int .i64 x) ∧ x ≤ 65536 ∧ Ext W' w') := hide (fun W' k hk hW' => (numY_spec W' a c k bs (hR.ext hW') hb hk).mono fun e w' ⟨x, h1, h2, h3⟩ => ⟨x, h1, by omega, h3⟩)
    clear hR hb hw1 hE hcn
    generalize w1.alloc (.cells #[.int .i64 n, .slice a' es.length c'] 25) = W0 at hw hRP q0 q1 ⊢
    have i5 : n ≠ 0 := by omega
    have i6 : (n : Int) ≠ 0 := by omega
    have i7 : 0 < n := by omega
    refine wp_region_O (0 :: 2 :: 3 :: 1 :: 4 :: 5 :: 6 :: []) (by kernel_rfl) rfl (by kernel_rfl) ?_
    repeat' (refine wpO_stepQ rfl (fun K hK => ?_)
             go_simp
             try (rw [if_neg (by intro h; simp [undef] at h)])
             try split
             all_goals
               first
               | (refine hK _ ?_
                  clear hK K)
               | (apply Exists.intro
                  refine ⟨fun wq hwq => ?_, hK _ ?_⟩
                  · have hcq := hwq.cellS
                    go_simp
                    first
                    | exact ⟨Ext.refl _, rfl⟩
                  clear hK K))
    refine wpO_stepS rfl (by kernel_rfl) (fun K hK wq hwq => ?_)
    go_simp
    refine (HNUM.out _ 60 (by omega) (hw.trans hwq)).mono ?_
    rintro e w2 ⟨x, rfl, hx, hw2⟩
    refine ⟨hw2, hK _ _ ?_⟩
    clear hK K
    have hE2 := hwq.trans hw2
    clear hwq hw2
    repeat' (refine wpO_stepQ rfl (fun K hK => ?_)
             go_simp
             try (rw [if_neg (by intro h; simp [undef] at h)])
             try split
             all_goals
               first
               | (refine hK _ ?_
                  clear hK K)
               | (apply Exists.intro
                  refine ⟨fun wq hwq => ?_, hK _ ?_⟩
                  · have hcq := hwq.cellS
                    go_simp
                    first
                    | exact ⟨Ext.refl _, rfl⟩
                  clear hK K))
    refine wpO_nil (fun wz hwz => ?_)
    have hEz := hE2.trans hwz
    obtain ⟨k, hk, k1, kn⟩ : ∃ k : Nat, IntKind.i64.wrap (1 + (x : Int).tmod n) = k ∧ 1 ≤ k ∧ k ≤ n := by
      have h1 : (x : Int).tmod n = ((x % n : Nat) : Int) := rfl
      have h2 : x % n < n := Nat.mod_lt _ (by omega)
      refine ⟨1 + x % n, ?_, by omega, by omega⟩
      rw [h1, IntWalk.i64_in _ (by omega)]
      omega
    rw [hk]
    obtain ⟨b, cv, s, hF⟩ := apr_f n1 n5 h0 k1 kn
    have q0 := hEz.keep q0
    have q1 := hEz.keep q1
    have hRP := hRP.ext hEz
    have hw := hw.trans hEz
    obtain ⟨wb, hwb⟩ : ∃ wb : World, wb = wz := ⟨_, rfl⟩
    subst hwb
    clear hE2 hwz hEz hk hx
    have hl2 : es.length ≤ 2000000 := by omega
    have HB : Hid (ValA 12 #[.agg #[.int .i64 n, .slice a' es.length c'], .int .i64 k] wb (.int .i64 b)) := hide (fun W hW => by
      have h := best_impl W n k a' c' es (hRP.ext hW) hl2
      rw [hF.eb] at h
      exact h)
    have HC : Hid (ValA 13 #[.agg #[.int .i64 n, .slice a' es.length c'], .int .i64 k] wb (.int .i64 cv)) := hide (fun W hW => by
      have h := coverC_impl W n k a' c' es (hRP.ext hW) hl2
      rw [hF.ec] at h
      exact h)
    have HS : Hid (ValA 14 #[.agg #[.int .i64 n, .slice a' es.length c'], .int .i64 k] wb (.int .i64 s)) := hide (fun W hW => by
      have h := step_impl W n k a' c' es (hRP.ext hW) hl2
      rw [hF.est] at h
      exact h)
    have HL : Hid (∀ W, Ext wb W → Calls Try.prog 15 #[.agg #[.int .i64 n, .slice a' es.length c'], .int .i64 k] W fun e w' => ∃ al cl, e = .returned (.slice al (commOf n es k).length cl) ∧ RdI w' al (commOf n es k) ∧ Ext W w') := hide (fun W hW => (comm_impl W n k a' c' es (hRP.ext hW)).mono fun e w' ⟨v, h1, h2, h3⟩ => by
      obtain ⟨al, cl, hv, _, _, hRl, _⟩ := h2.val
      exact ⟨al, cl, by rw [h1, hv], hRl, h3⟩)
    have HOK : Hid (ValA 16 #[.agg #[.int .i64 n, .slice a' es.length c']] wb (.bool true)) := hide (fun W hW => by
      have h := ok_impl W n a' c' es (hRP.ext hW)
      rw [h0] at h
      exact h)
    have HJ1 : Hid (ValA 18 #[.agg #[.int .i64 n, .slice a' es.length c'], .int .i64 b, .int .i64 k] wb (.bool true)) := hide (fun W hW => by
      have h := just_impl W n b k a' c' es (hRP.ext hW) hl2
      rw [hF.jb] at h
      exact h)
    have HJ2 : Hid (ValA 18 #[.agg #[.int .i64 n, .slice a' es.length c'], .int .i64 cv, .int .i64 k] wb (.bool true)) := hide (fun W hW => by
      have h := just_impl W n cv k a' c' es (hRP.ext hW) hl2
      rw [hF.jc] at h
      exact h)
    have HCS : Hid (∀ y : Nat, y < 2 ^ n → ValA 19 #[.agg #[.int .i64 n, .slice a' es.length c'], .int .i64 y] wb (.tuple #[.agg #[.int .i64 (frT (scoreOf es y).toNat : Nat), .int .i64 (frB (scoreOf es y).toNat : Nat)], .bool true])) := hide (fun y hy W hW => by
      have h := com_impl W n y a' c' es (hRP.ext hW)
      rw [comV_at h0 hy] at h
      exact h)
    have HCM : Hid (∀ y z : Nat, ∀ W, Calls Try.prog 20 #[.agg #[.int .i64 (frT (scoreOf es y).toNat : Nat), .int .i64 (frB (scoreOf es y).toNat : Nat)], .agg #[.int .i64 (frT (scoreOf es z).toNat : Nat), .int .i64 (frB (scoreOf es z).toNat : Nat)]] W fun e w' => e = .returned (.int .i64 (sgnA (scoreOf es y).toNat (scoreOf es z).toNat)) ∧ Ext W w') := hide (fun y z W => cmpf_impl W _ _ (by have := score_nn h0 (y : Int); omega) (by have := score_nn h0 (z : Int); omega))
    have HAS : Hid (∀ W, Ext wb W → Calls Try.prog 21 #[.agg #[.int .i64 n, .slice a' es.length c']] W fun e w' => ∃ al cl, e = .returned (.slice al n cl) ∧ RdI w' al (scoresTo es n) ∧ Ext W w') := hide (fun W hW => (scores_impl W n a' c' es (hRP.ext hW)).mono fun e w' ⟨v, h1, h2, h3⟩ => by
      rw [scoresOf_at h0] at h2
      obtain ⟨al, cl, hv, _, _, hRl, _⟩ := h2.val
      rw [scoresTo_len] at hv
      exact ⟨al, cl, by rw [h1, hv], hRl, h3⟩)
    have HSE : Hid (∀ (m : Nat) (x : Int × Int), es[m]? = some x → ValA 22 #[.agg #[.int .i64 n, .slice a' es.length c'], .int .i64 b, .int .i64 m] wb (.int .i64 (cntTo (landI (b : Int) x.1) 6))) := hide (fun m x hx W hW => by
      have h := seatsA_impl W n a' c' es b m (hRP.ext hW) hl2
      rw [seatsFor_at h0 hF.lb hx] at h
      exact h)
    have hb63 : b < 32 := by have := hF.lb; have := p5 n5; omega
    have HSZ : Hid (ValA 23 #[.int .i64 b] wb (.int .i64 k)) := hide (fun W hW => by
      have h := size_impl W b (by omega) (by omega)
      rw [cnt_cN, hF.cb] at h
      exact h)
    have HMS : Hid (∀ m, 0 ≤ memS es b m ∧ memS es b m ≤ 12000 * m) := hide (memS_bd h0 b)
    have HVS : Hid (∀ m, 0 ≤ sumIf (fun s => bitAt s m) es ∧ sumIf (fun s => bitAt s m) es ≤ 12000) := hide (fun m => sumIf_small h0 _)
    have HSB : Hid (∀ m, m ≤ es.length → 0 ≤ seaS (es.take m) b ∧ seaS (es.take m) b ≤ 6000 * m) := hide (seaS_bd h0 b)
    have HEQ : Hid (seaS es b = memS es b n) := hide ((seats_all n5 hF.lb (appN h0)).symm)
    have HSM : Hid (∀ x ∈ es, 1 ≤ x.2 ∧ x.2 ≤ 1000) := hide (fun x hx => ⟨(ok_at h0 hx).2.2.2.1, (ok_at h0 hx).2.2.2.2⟩)
    have HLA : Hid (∀ (i : Nat) (x : Int), (commOf n es k)[i]? = some x → ∃ y : Nat, x = y ∧ y < 2 ^ n ∧ (scoreOf es y).toNat ≤ (scoreOf es b).toNat) := hide (fun i x hx => by
      obtain ⟨y, e, hy, hyk⟩ := comm_at h0 k1 kn hx
      exact ⟨y, e, hy, hF.best y hy hyk⟩)
    have HSS : Hid ((scoreOf es s).toNat ≤ (scoreOf es b).toNat ∧ (k = 1 → s = b)) := hide ⟨hF.best s hF.ls hF.cs, hF.one⟩
    have hll := commOf_len n k es
    have hl0 : 0 < (commOf n es k).length := List.length_pos_of_mem hF.mb
    have HM := hide (⟨hF.mb, hF.mc, hF.ms⟩ : (b : Int) ∈ commOf n es k ∧ (cv : Int) ∈ commOf n es k ∧ (s : Int) ∈ commOf n es k)
    have HBL := hide hF.lb
    have HSL := hide hF.ls
    have HRP := hide hRP
    clear hF hRP h0 hl2
    generalize commOf n es k = L at HL HLA hll hl0 HM
    have hEr : Ext wb wb := Ext.refl _
    have B0 := q0
    have B1 := q1
    go_wp2_with fail
    refine (HB.out.at _ hEr).mono ?_
    rintro e w3 ⟨rfl, hw3⟩
    have q0 := hw3.keep q0
    have q1 := hw3.keep q1
    have hEr := hEr.trans hw3
    clear hw3
    go_wp2_with fail
    refine (HC.out.at _ hEr).mono ?_
    rintro e w4 ⟨rfl, hw4⟩
    have q0 := hw4.keep q0
    have q1 := hw4.keep q1
    have hEr := hEr.trans hw4
    clear hw4
    go_wp2_with fail
    refine (HS.out.at _ hEr).mono ?_
    rintro e w5 ⟨rfl, hw5⟩
    have q0 := hw5.keep q0
    have q1 := hw5.keep q1
    have hEr := hEr.trans hw5
    clear hw5
    go_wp2_with fail
    refine (HL.out _ hEr).mono ?_
    rintro e w6 ⟨al, cl, rfl, hRL, hw6⟩
    have q0 := hw6.keep q0
    have q1 := hw6.keep q1
    have hEr := hEr.trans hw6
    obtain ⟨y0, hy0⟩ := at_of_lt hl0
    obtain ⟨bl, ol, rfl, hju⟩ := hRL.at_ hy0
    obtain ⟨LL, hLL⟩ : ∃ LL : Nat, LL = L.length := ⟨_, rfl⟩
    rw [← hLL] at hll hl0 ⊢
    have HHH : Hid (∀ x ∈ L, ValA 17 #[.slice (some ⟨bl, ol, none⟩) LL cl, .int .i64 x] w6 (.bool true)) := hide (fun x hx W hW => by
      have h := has_law W _ LL cl L x hLL (hRL.ext hW) (by omega)
      rw [hasI_iff.2 hx] at h
      exact h)
    have HH1 := hide (fun W (hW : Ext w6 W) => (HHH.out b HM.out.1).at W hW)
    have HH2 := hide (fun W (hW : Ext w6 W) => (HHH.out cv HM.out.2.1).at W hW)
    have HH3 := hide (fun W (hW : Ext w6 W) => (HHH.out s HM.out.2.2).at W hW)
    have HRL := hide hRL
    have HLL := hide hLL
    clear hw6 hju hy0 hRL hLL HB HC HS HL
    have hE6 : Ext w6 w6 := Ext.refl _
    go_wp2_with fail
    refine (HOK.out.at _ hEr).mono ?_
    rintro e w7 ⟨rfl, hw7⟩
    have q0 := hw7.keep q0
    have q1 := hw7.keep q1
    have hEr := hEr.trans hw7
    have hE6 := hE6.trans hw7
    clear hw7
    go_wp2_with fail
    refine (HH1.out _ hE6).mono ?_
    rintro e w8 ⟨rfl, hw8⟩
    have q0 := hw8.keep q0
    have q1 := hw8.keep q1
    have hEr := hEr.trans hw8
    have hE6 := hE6.trans hw8
    clear hw8
    go_wp2_with fail
    refine (HH2.out _ hE6).mono ?_
    rintro e w9 ⟨rfl, hw9⟩
    have q0 := hw9.keep q0
    have q1 := hw9.keep q1
    have hEr := hEr.trans hw9
    have hE6 := hE6.trans hw9
    clear hw9
    go_wp2_with fail
    refine (HH3.out _ hE6).mono ?_
    rintro e w10 ⟨rfl, hw10⟩
    have q0 := hw10.keep q0
    have q1 := hw10.keep q1
    have hEr := hEr.trans hw10
    have hE6 := hE6.trans hw10
    clear hw10
    go_wp2_with fail
    refine (HJ1.out.at _ hEr).mono ?_
    rintro e w11 ⟨rfl, hw11⟩
    have q0 := hw11.keep q0
    have q1 := hw11.keep q1
    have hEr := hEr.trans hw11
    have hE6 := hE6.trans hw11
    clear hw11
    go_wp2_with fail
    refine (HJ2.out.at _ hEr).mono ?_
    rintro e w12 ⟨rfl, hw12⟩
    have q0 := hw12.keep q0
    have q1 := hw12.keep q1
    have hEr := hEr.trans hw12
    have hE6 := hE6.trans hw12
    clear hw12
    go_wp2_with fail
    refine ((HCS.out b HBL.out).at _ hEr).mono ?_
    rintro e w13 ⟨rfl, hw13⟩
    have x0 := new0 w13 (.int .i64 (frT (scoreOf es b).toNat : Nat)) [.int .i64 (frB (scoreOf es b).toNat : Nat)] 35
    have x1 := new1 w13 (.int .i64 (frT (scoreOf es b).toNat : Nat)) (.int .i64 (frB (scoreOf es b).toNat : Nat)) [] 35
    have hN := Ext.new w13 (.cells #[.int .i64 (frT (scoreOf es b).toNat : Nat), .int .i64 (frB (scoreOf es b).toNat : Nat)] 35)
    have q0 := hN.keep (hw13.keep q0)
    have q1 := hN.keep (hw13.keep q1)
    have hEr := (hEr.trans hw13).trans hN
    have hE6 := (hE6.trans hw13).trans hN
    have HRL := hide (HRL.out.ext hE6)
    clear HOK HH1 HH2 HH3 HJ1 HJ2 HHH HM hw13
    go_wp2
    generalize w13.alloc (.cells #[.int .i64 (frT (scoreOf es b).toNat : Nat), .int .i64 (frB (scoreOf es b).toNat : Nat)] 35) = wd at x0 x1 hN q0 q1 hEr hE6 HRL ⊢
    obtain ⟨g9, hg9⟩ : ∃ g9 : Nat, g9 = w13.heap.size := ⟨_, rfl⟩
    rw [← hg9] at x0 x1 ⊢
    clear hg9 hN
    have hwd := hw.trans hEr
    have HX9 := hide x0
    have i8 : LL ≠ 0 := by omega
    have i9 : (LL : Int) ≠ 0 := by omega
    refine wp_region_Y [0,1,2,4,5,3,6,7,8,9,10,11,12,13,14,15] w1.heap.size [12] (by kernel_rfl) rfl (by kernel_rfl) ?_
    repeat' (refine wpY_stepQ rfl rfl (fun K hK => ?_)
             go_simp
             try (rw [if_neg (by intro h; simp [undef] at h)])
             try split
             all_goals
               first
               | (refine hK _ ?_
                  clear hK K)
               | (apply Exists.intro
                  refine ⟨fun wq hwq => ?_, hK _ ?_⟩
                  · have hcq := hwq.cellS
                    go_simp
                    first
                    | exact ⟨Ext.refl _, rfl⟩
                  clear hK K))
    refine wpY_stepF 13 [3, 6, 7, 8, 9, 10, 11, 12, 14, 15] rfl rfl (by kernel_rfl) rfl (by kernel_rfl) (fun K hK wq hwq => ?_) (fun K hK wq hwq => ?_)
    · go_simp
      refine (HNUM.out _ 62 (by omega) (hwd.trans hwq)).mono ?_
      rintro e w14 ⟨y, rfl, hy, hw14⟩
      refine ⟨hw14, hK _ _ ?_⟩
      clear hK K
      have hEq := hwq.trans hw14
      have q0 := hEq.keep q0
      have q1 := hEq.keep q1
      have x0 := hEq.keep x0
      have x1 := hEq.keep x1
      have hEr := hEr.trans hEq
      have hwd := hwd.trans hEq
      have HRL := hide (HRL.out.ext hEq)
      have hds := hEq.size
      clear hwq hw14 hEq
      obtain ⟨j, hj, hjl⟩ : ∃ j : Nat, (y : Int).tmod LL = j ∧ j < LL := ⟨y % LL, rfl, Nat.mod_lt _ (by omega)⟩
      obtain ⟨yv, hyv⟩ := at_of_lt (xs := L) (k := j) (by rw [← HLL.out]; exact hjl)
      obtain ⟨y2, rfl, hy2, hyb⟩ := HLA.out j yv hyv
      obtain ⟨b4, o4, e4, dl⟩ := HRL.out.at_ hyv
      injection e4 with e4
      injection e4 with e4 e5
      subst e4
      subst e5
      have HCY := hide (HCS.out y2 hy2)
      have HYB := hide hyb
      clear hyv hy2 hyb hy
      repeat' (refine wpY_stepQ rfl rfl (fun K hK => ?_)
               go_simp
               try (rw [if_neg (by intro h; simp [undef] at h)])
               try split
               all_goals
                 first
                 | (refine hK _ ?_
                    clear hK K)
                 | (apply Exists.intro
                    refine ⟨fun wq hwq => ?_, hK _ ?_⟩
                    · have hcq := hwq.cellS
                      go_simp
                      first
                      | exact ⟨Ext.refl _, rfl⟩
                    clear hK K))
      refine wpY_stepQ rfl rfl (fun K hK => ?_)
      go_simp
      apply Exists.intro
      refine ⟨fun wq hwq => ?_, hK _ ?_⟩
      · have hcq := hwq.cellS
        go_simp
        exact ⟨Ext.refl _, HCY.out.at _ (hEr.trans hwq)⟩
      clear hK K
      repeat' (refine wpY_stepQ rfl rfl (fun K hK => ?_)
               go_simp
               try (rw [if_neg (by intro h; simp [undef] at h)])
               try split
               all_goals
                 first
                 | (refine hK _ ?_
                    clear hK K)
                 | (apply Exists.intro
                    refine ⟨fun wq hwq => ?_, hK _ ?_⟩
                    · have hcq := hwq.cellS
                      go_simp
                      first
                      | exact ⟨Ext.refl _, rfl⟩
                    clear hK K))
      refine wpY_stepQL (.bool true) rfl rfl (fun wq hwq => ?_) (fun K hK0 => ?_)
      · go_simp
        exact ⟨Ext.refl _, rfl⟩
      refine hK0 _ ?_
      clear hK0 K
      refine wpY_stepS rfl (by kernel_rfl) (fun K hK wq hwq => ?_)
      go_simp
      refine ⟨(Ext.refl _).alloc _, hK _ _ ?_⟩
      clear hK K
      have hBp := BlkF.new wq #[.int .i64 0, .int .i64 0] 35
      have hEq := hwq.alloc (.cells #[.int .i64 0, .int .i64 0] 35)
      have hws := hwq.size
      obtain ⟨p, hp⟩ : ∃ p : Nat, p = wq.heap.size := ⟨_, rfl⟩
      rw [← hp] at hBp ⊢
      generalize wq.alloc (.cells #[.int .i64 0, .int .i64 0] 35) = wn at hBp hEq ⊢
      have q0 := hEq.keep q0
      have q1 := hEq.keep q1
      have x0 := hEq.keep x0
      have x1 := hEq.keep x1
      have hEb := hEr
      have hEr := hEr.trans hEq
      have hwd := hwd.trans hEq
      have HRL := hide (HRL.out.ext hEq)
      have hpw : wb.heap.size ≤ p := by have := hEb.size; omega
      have hgd : g9 < wd.heap.size := World.block_lt_of_cell? _ _ HX9.out
      have hgp : g9 < p := by omega
      clear hwq hEq hws hp
      repeat' (refine wpY_stepQ rfl rfl (fun K hK => ?_)
               go_simp
               try (rw [if_neg (by intro h; simp [undef] at h)])
               try split
               all_goals
                 first
                 | (refine hK _ ?_
                    clear hK K)
                 | (apply Exists.intro
                    refine ⟨fun wq hwq => ?_, hK _ ?_⟩
                    · have hcq := hwq.cellS
                      go_simp
                      first
                      | exact ⟨Ext.refl _, rfl⟩
                    clear hK K))
      refine wpY_stepC rfl (by kernel_rfl) (by kernel_rfl) (fun K hK wz hwz => ?_)
      have hBz := hBp.ext hwz
      have b0 := hBz.cell 0 (by simp)
      have b1 := hBz.cell 1 (by simp)
      have z0 := hBz.fr 0
      have z1 := hBz.fr 1
      have hEz := hEr.trans hwz
      have hwdz := hwd.trans hwz
      have x0 := hwz.keep x0
      have x1 := hwz.keep x1
      go_simp
      have hO : Only p wz ((wz.setCell ⟨p, 0, none⟩ (.int .i64 (frT (scoreOf es y2).toNat : Nat))).setCell ⟨p, 1, none⟩ (.int .i64 (frB (scoreOf es y2).toNat : Nat))) := ((Only.refl p wz).setCell 0 _).setCell 1 _
      have hBs := (hBz.set 0 (by simp) (.int .i64 (frT (scoreOf es y2).toNat : Nat))).set 1 (by simp) (.int .i64 (frB (scoreOf es y2).toNat : Nat))
      have hEs : Ext wb ((wz.setCell ⟨p, 0, none⟩ (.int .i64 (frT (scoreOf es y2).toNat : Nat))).setCell ⟨p, 1, none⟩ (.int .i64 (frB (scoreOf es y2).toNat : Nat))) := Only.ext hEz hO hpw
      have x0 := hO.keep (p := ⟨g9, 0, none⟩) (by dsimp only; omega) x0
      have x1 := hO.keep (p := ⟨g9, 1, none⟩) (by dsimp only; omega) x1
      have hH1 : w1.heap.size < wb.heap.size := World.block_lt_of_cell? wb _ B0
      refine ⟨Sam.grown hO (by intro e; injection e with e; omega), hK _ _ ?_⟩
      clear hK K b0 b1 z0 z1 hBz hEz hwdz
      have hwS := hw.trans hEs
      generalize (wz.setCell ⟨p, 0, none⟩ (.int .i64 (frT (scoreOf es y2).toNat : Nat))).setCell ⟨p, 1, none⟩ (.int .i64 (frB (scoreOf es y2).toNat : Nat)) = ws at hO hBs hEs x0 x1 hwS ⊢
      have f0 := hBs.cell 0 (by simp)
      have f1 := hBs.cell 1 (by simp)
      rw [if_neg (by omega), if_pos rfl] at f0
      rw [if_pos rfl] at f1
      have q0 := hEs.keep B0
      have q1 := hEs.keep B1
      clear hO hBs hwz hBp hEr hwd
      repeat' (refine wpY_stepQ rfl rfl (fun K hK => ?_)
               go_simp
               try (rw [if_neg (by intro h; simp [undef] at h)])
               try split
               all_goals
                 first
                 | (refine hK _ ?_
                    clear hK K)
                 | (apply Exists.intro
                    refine ⟨fun wq hwq => ?_, hK _ ?_⟩
                    · have hcq := hwq.cellS
                      go_simp
                      first
                      | exact ⟨Ext.refl _, rfl⟩
                    clear hK K))
      refine wpY_nil (fun wy hwy => ?_)
      have q0 := hwy.keep q0
      have q1 := hwy.keep q1
      have x0 := hwy.keep x0
      have x1 := hwy.keep x1
      have f0 := hwy.keep f0
      have f1 := hwy.keep f1
      have hEr := hEs.trans hwy
      have hw := hwS.trans hwy
      clear hwy hEs hwS hH1 hpw hgp
      obtain ⟨wv, hwv⟩ : ∃ wv : World, wv = wy := ⟨_, rfl⟩
      subst hwv
      have hwWv := hw
      have hEs0 : Ext wv wv := Ext.refl _
      go_wp2_with fail
      refine ((HCS.out s HSL.out).at _ hEr).mono ?_
      rintro e w20 ⟨rfl, hw20⟩
      have m0 := new0 w20 (.int .i64 (frT (scoreOf es s).toNat : Nat)) [.int .i64 (frB (scoreOf es s).toNat : Nat)] 35
      have m1 := new1 w20 (.int .i64 (frT (scoreOf es s).toNat : Nat)) (.int .i64 (frB (scoreOf es s).toNat : Nat)) [] 35
      have hN := hw20.trans (Ext.new w20 (.cells #[.int .i64 (frT (scoreOf es s).toNat : Nat), .int .i64 (frB (scoreOf es s).toNat : Nat)] 35))
      have q0 := hN.keep q0
      have q1 := hN.keep q1
      have x0 := hN.keep x0
      have x1 := hN.keep x1
      have f0 := hN.keep f0
      have f1 := hN.keep f1
      have hEr := hEr.trans hN
      have hEs0 := hEs0.trans hN
      obtain ⟨g13, hg13⟩ : ∃ g : Nat, g = w20.heap.size := ⟨_, rfl⟩
      have HC1 := hide (HCM.out b y2)
      have HC2 := hide (HCM.out b s)
      have g1 := sgn_ge HYB.out
      have g2 := sgn_ge HSS.out.1
      have HZ : Hid (k = 1 → sgnA (scoreOf es b).toNat (scoreOf es s).toNat = 0) := hide (fun h => by rw [HSS.out.2 h]; exact sgn_eq _)
      generalize sgnA (scoreOf es b).toNat (scoreOf es y2).toNat = Z1 at HC1 g1
      generalize sgnA (scoreOf es b).toNat (scoreOf es s).toNat = Z2 at HC2 g2 HZ
      go_wp2_with fail
      rw [← hg13] at m0 m1 ⊢
      generalize w20.alloc (.cells #[.int .i64 (frT (scoreOf es s).toNat : Nat), .int .i64 (frB (scoreOf es s).toNat : Nat)] 35) = wt at m0 m1 hN q0 q1 x0 x1 f0 f1 hEr hEs0 ⊢
      clear hg13 hw20 hN
      refine (HC1.out _).mono ?_
      rintro e w21 ⟨rfl, hw21⟩
      have q0 := hw21.keep q0
      have q1 := hw21.keep q1
      have x0 := hw21.keep x0
      have x1 := hw21.keep x1
      have f0 := hw21.keep f0
      have f1 := hw21.keep f1
      have m0 := hw21.keep m0
      have m1 := hw21.keep m1
      have hEr := hEr.trans hw21
      have hEs0 := hEs0.trans hw21
      clear hw21
      go_wp2_with fail
      refine (HC2.out _).mono ?_
      rintro e w22 ⟨rfl, hw22⟩
      have q0 := hw22.keep q0
      have q1 := hw22.keep q1
      have x0 := hw22.keep x0
      have x1 := hw22.keep x1
      have f0 := hw22.keep f0
      have f1 := hw22.keep f1
      have m0 := hw22.keep m0
      have m1 := hw22.keep m1
      have hEr := hEr.trans hw22
      have hEs0 := hEs0.trans hw22
      clear hw22
      go_wp2_with fail
      refine (HAS.out _ hEr).mono ?_
      rintro e w23 ⟨asl, acl, rfl, hRs, hw23⟩
      have q0 := hw23.keep q0
      have q1 := hw23.keep q1
      have x0 := hw23.keep x0
      have x1 := hw23.keep x1
      have f0 := hw23.keep f0
      have f1 := hw23.keep f1
      have m0 := hw23.keep m0
      have m1 := hw23.keep m1
      have hEr := hEr.trans hw23
      have hEs0 := hEs0.trans hw23
      obtain ⟨bq, oq, rfl, hju⟩ := hRs.at_ (sT_at (es := es) (j := 0) (n := n) (by omega))
      have HRs := hide hRs
      have hwW := hwWv.trans hEs0
      clear hw23 hju hRs f0 f1 g1 g2 HC1 HCS HNUM HAS HCM HYB HRL HLL HLA dl hj hjl
      obtain ⟨we, hwe⟩ : ∃ we : World, we = w23 := ⟨_, rfl⟩
      subst hwe
      go_wp2_with fail
      go_loopw [15, 16, 17, 129] (fun tot _ _ i wr => ∃ m : Nat, m ≤ n ∧ i = .int .i64 m ∧ tot = .int .i64 (memS es b m) ∧ wr = we) (fun _ _ _ i _ => n - (intOf i).toNat)
      case atStart => exact ⟨0, Nat.zero_le _, rfl, by simp [memS], rfl⟩
      case round =>
        obtain ⟨m, hm, rfl, rfl, hwe⟩ := hrel
        subst hwe
        by_cases hlt : m < n
        · obtain ⟨b4, o4, e4, d4⟩ := HRs.out.at_ (sT_at (es := es) hlt)
          injection e4 with e4
          injection e4 with e4 e5
          subst e4
          subst e5
          have hm6 : m < 6 := by omega
          have hpw := pow_wrap hm6
          have hbt := bit_spec (s := (b : Int)) (by omega) (by omega) hm6
          have HMN := hide (memS_succ es b m)
          obtain ⟨a1, a2⟩ := HMS.out m
          obtain ⟨a3, a4⟩ := HVS.out m
          have a5 : memS es b m ≤ 60000 := by omega
          have hm1 : m + 1 ≤ n := hlt
          rw [one_bit] at hbt
          generalize memS es b m = A at HMN a1 a2 a5 ⊢
          generalize sumIf (fun s => bitAt s m) es = V at d4 HMN a3 a4
          cases hb : b.testBit m
          · rw [hb] at hbt HMN
            clear hb
            go_wp2
            exact ⟨⟨m + 1, hm1, by go_num, by rw [HMN.out]; simp, trivial⟩, by simp [intOf]; omega⟩
          · rw [hb] at hbt HMN
            clear hb
            go_wp2
            exact ⟨⟨m + 1, hm1, by go_num, by rw [HMN.out]; simp, trivial⟩, by simp [intOf]; omega⟩
        · have hmn : m = n := by omega
          rw [hmn]
          clear hmn hlt hm
          obtain ⟨wf, hwf⟩ : ∃ wf : World, wf = wr := ⟨_, rfl⟩
          subst hwf
          have HQ0 := q0
          have HQ1 := q1
          have HX0 := x0
          have HX1 := x1
          have HM0 := m0
          have HM1 := m1
          as_aux_lemma =>
            go_wp2_with fail
            go_loopw [18, 19, 20, 146] (fun tot _ _ i wr => ∃ m : Nat, m ≤ es.length ∧ i = .int .i64 m ∧ tot = .int .i64 (seaS (es.take m) b) ∧ Ext wf wr) (fun _ _ _ i _ => es.length - (intOf i).toNat)
            case atStart => exact ⟨0, Nat.zero_le _, rfl, by simp [seaS, sumM], Ext.refl _⟩
            case round =>
              obtain ⟨m, hm, rfl, rfl, hwr⟩ := hrel
              have q0 := hwr.keep HQ0
              have q1 := hwr.keep HQ1
              have x0 := hwr.keep HX0
              have x1 := hwr.keep HX1
              have m0 := hwr.keep HM0
              have m1 := hwr.keep HM1
              have hEw := hEr.trans hwr
              by_cases hlt : m < es.length
              · obtain ⟨v, hv⟩ := at_of_lt hlt
                obtain ⟨v1, v2⟩ := HSM.out v (List.mem_of_getElem? hv)
                have HSX := hide (HSE.out m v hv)
                have HAT := hide (seaS_at (b := b) hv)
                have hsb := HSB.out m hm
                have hcd := cnt_bd (landI (b : Int) v.1) 6
                obtain ⟨b4, o4, rfl, c0, c1⟩ := (HRP.out.ext hEw).at_ hv
                generalize cntTo (landI (b : Int) v.1) 6 = S at HSX HAT hcd
                generalize seaS (es.take m) b = A at HAT hsb ⊢
                have hp1 : 0 ≤ v.2 * S := Int.mul_nonneg (by omega) (by omega)
                have hp2 : v.2 * S ≤ 1000 * 6 := Int.mul_le_mul (by omega) (by omega) (by omega) (by omega)
                have e0 := new0 wr (.int .i64 v.1) [.int .i64 v.2] 41
                have e1 := new1 wr (.int .i64 v.1) (.int .i64 v.2) [] 41
                have hN := Ext.new wr (.cells #[.int .i64 v.1, .int .i64 v.2] 41)
                have q0 := hN.keep q0
                have q1 := hN.keep q1
                have hE2 := hEw.trans hN
                have hm1 : m + 1 ≤ es.length := hlt
                have hy : IntKind.i64.wrap (v.2 * S) = v.2 * S ∧ IntKind.i64.wrap (A + v.2 * S) = A + v.2 * S := ⟨IntWalk.i64_in _ (by omega), IntWalk.i64_in _ (by omega)⟩
                obtain ⟨y1, y2⟩ := hy
                clear hv hsb hcd hp1 hp2 v1 v2
                go_wp2
                refine wp_region_X (by kernel_rfl) (by kernel_rfl) ?_
                repeat' (refine wpX_stepQ (fun K hK => ?_)
                         go_simp
                         try (rw [if_neg (by intro h; simp [undef] at h)])
                         try split
                         all_goals
                           first
                           | (refine hK _ ?_
                              clear hK K)
                           | (apply Exists.intro
                              refine ⟨fun wq hwq => ?_, hK _ ?_⟩
                              · have hcq := hwq.cellS
                                go_simp
                                first
                                | exact ⟨Ext.refl _, rfl⟩
                                | exact ⟨Ext.refl _, HSX.out.at _ (hE2.trans hwq)⟩
                              clear hK K))
                refine wpX_nil (fun wz hwz => ?_)
                go_wp2
                exact ⟨⟨m + 1, hm1, by go_num, by rw [HAT.out], (hwr.trans hN).trans hwz⟩, by simp [intOf]; omega⟩
              · have hmn : m = es.length := by omega
                have HTK : Hid (seaS (es.take m) b = memS es b n) := hide (by rw [hmn, List.take_length]; exact HEQ.out)
                rw [HTK.out]
                have hwF := hwW.trans hwr
                generalize memS es b n = MS at HMS ⊢
                by_cases hk1 : k = 1
                · have t1 : ¬ (1 : Int) < (k : Int) := by omega
                  have t2 := HZ.out hk1
                  rw [t2] at HC2
                  clear hk1 t2
                  go_wp2_with fail
                  refine (HSZ.out.at _ hEw).mono ?_
                  rintro e w30 ⟨rfl, hw30⟩
                  have x0 := hw30.keep x0
                  have x1 := hw30.keep x1
                  have m0 := hw30.keep m0
                  have m1 := hw30.keep m1
                  go_wp2_with fail
                  refine (HC2.out _).mono ?_
                  rintro e w31 ⟨rfl, hw31⟩
                  go_wp2
                  go_ret
                  exact ⟨rfl, (hwF.trans hw30).trans hw31⟩
                · have t1 : (1 : Int) < (k : Int) := by omega
                  clear hk1
                  go_wp2_with fail
                  refine (HSZ.out.at _ hEw).mono ?_
                  rintro e w30 ⟨rfl, hw30⟩
                  go_wp2
                  go_ret
                  exact ⟨rfl, hwF.trans hw30⟩
    · go_simp
      refine ⟨(Ext.refl _).alloc _, hK _ _ ?_⟩
      clear hK K
      have hBp := BlkF.new wq #[.int .i64 0, .int .i64 0] 35
      have hEq := hwq.alloc (.cells #[.int .i64 0, .int .i64 0] 35)
      have hws := hwq.size
      obtain ⟨p, hp⟩ : ∃ p : Nat, p = wq.heap.size := ⟨_, rfl⟩
      rw [← hp] at hBp ⊢
      generalize wq.alloc (.cells #[.int .i64 0, .int .i64 0] 35) = wn at hBp hEq ⊢
      have q0 := hEq.keep q0
      have q1 := hEq.keep q1
      have x0 := hEq.keep x0
      have x1 := hEq.keep x1
      have hEb := hEr
      have hEr := hEr.trans hEq
      have hwd := hwd.trans hEq
      have HRL := hide (HRL.out.ext hEq)
      have hpw : wb.heap.size ≤ p := by have := hEb.size; omega
      have hgd : g9 < wd.heap.size := World.block_lt_of_cell? _ _ HX9.out
      have hgp : g9 < p := by omega
      clear hwq hEq hws hp
      refine wpY_stepS rfl (by kernel_rfl) (fun K hK wq hwq => ?_)
      go_simp
      refine (HNUM.out _ 62 (by omega) (hwd.trans hwq)).mono ?_
      rintro e w14 ⟨y, rfl, hy, hw14⟩
      refine ⟨hw14, hK _ _ ?_⟩
      clear hK K
      have hEq := hwq.trans hw14
      have q0 := hEq.keep q0
      have q1 := hEq.keep q1
      have x0 := hEq.keep x0
      have x1 := hEq.keep x1
      have hEr := hEr.trans hEq
      have hwd := hwd.trans hEq
      have HRL := hide (HRL.out.ext hEq)
      have hBp := hBp.ext hEq
      have hds := hEq.size
      clear hwq hw14 hEq
      obtain ⟨j, hj, hjl⟩ : ∃ j : Nat, (y : Int).tmod LL = j ∧ j < LL := ⟨y % LL, rfl, Nat.mod_lt _ (by omega)⟩
      obtain ⟨yv, hyv⟩ := at_of_lt (xs := L) (k := j) (by rw [← HLL.out]; exact hjl)
      obtain ⟨y2, rfl, hy2, hyb⟩ := HLA.out j yv hyv
      obtain ⟨b4, o4, e4, dl⟩ := HRL.out.at_ hyv
      injection e4 with e4
      injection e4 with e4 e5
      subst e4
      subst e5
      have HCY := hide (HCS.out y2 hy2)
      have HYB := hide hyb
      clear hyv hy2 hyb hy
      repeat' (refine wpY_stepQ rfl rfl (fun K hK => ?_)
               go_simp
               try (rw [if_neg (by intro h; simp [undef] at h)])
               try split
               all_goals
                 first
                 | (refine hK _ ?_
                    clear hK K)
                 | (apply Exists.intro
                    refine ⟨fun wq hwq => ?_, hK _ ?_⟩
                    · have hcq := hwq.cellS
                      go_simp
                      first
                      | exact ⟨Ext.refl _, rfl⟩
                    clear hK K))
      refine wpY_stepQ rfl rfl (fun K hK => ?_)
      go_simp
      apply Exists.intro
      refine ⟨fun wq hwq => ?_, hK _ ?_⟩
      · have hcq := hwq.cellS
        go_simp
        exact ⟨Ext.refl _, HCY.out.at _ (hEr.trans hwq)⟩
      clear hK K
      repeat' (refine wpY_stepQ rfl rfl (fun K hK => ?_)
               go_simp
               try (rw [if_neg (by intro h; simp [undef] at h)])
               try split
               all_goals
                 first
                 | (refine hK _ ?_
                    clear hK K)
                 | (apply Exists.intro
                    refine ⟨fun wq hwq => ?_, hK _ ?_⟩
                    · have hcq := hwq.cellS
                      go_simp
                      first
                      | exact ⟨Ext.refl _, rfl⟩
                    clear hK K))
      refine wpY_stepQL (.bool true) rfl rfl (fun wq hwq => ?_) (fun K hK0 => ?_)
      · go_simp
        exact ⟨Ext.refl _, rfl⟩
      refine hK0 _ ?_
      clear hK0 K
      repeat' (refine wpY_stepQ rfl rfl (fun K hK => ?_)
               go_simp
               try (rw [if_neg (by intro h; simp [undef] at h)])
               try split
               all_goals
                 first
                 | (refine hK _ ?_
                    clear hK K)
                 | (apply Exists.intro
                    refine ⟨fun wq hwq => ?_, hK _ ?_⟩
                    · have hcq := hwq.cellS
                      go_simp
                      first
                      | exact ⟨Ext.refl _, rfl⟩
                    clear hK K))
      refine wpY_stepC rfl (by kernel_rfl) (by kernel_rfl) (fun K hK wz hwz => ?_)
      have hBz := hBp.ext hwz
      have b0 := hBz.cell 0 (by simp)
      have b1 := hBz.cell 1 (by simp)
      have z0 := hBz.fr 0
      have z1 := hBz.fr 1
      have hEz := hEr.trans hwz
      have hwdz := hwd.trans hwz
      have x0 := hwz.keep x0
      have x1 := hwz.keep x1
      go_simp
      have hO : Only p wz ((wz.setCell ⟨p, 0, none⟩ (.int .i64 (frT (scoreOf es y2).toNat : Nat))).setCell ⟨p, 1, none⟩ (.int .i64 (frB (scoreOf es y2).toNat : Nat))) := ((Only.refl p wz).setCell 0 _).setCell 1 _
      have hBs := (hBz.set 0 (by simp) (.int .i64 (frT (scoreOf es y2).toNat : Nat))).set 1 (by simp) (.int .i64 (frB (scoreOf es y2).toNat : Nat))
      have hEs : Ext wb ((wz.setCell ⟨p, 0, none⟩ (.int .i64 (frT (scoreOf es y2).toNat : Nat))).setCell ⟨p, 1, none⟩ (.int .i64 (frB (scoreOf es y2).toNat : Nat))) := Only.ext hEz hO hpw
      have x0 := hO.keep (p := ⟨g9, 0, none⟩) (by dsimp only; omega) x0
      have x1 := hO.keep (p := ⟨g9, 1, none⟩) (by dsimp only; omega) x1
      have hH1 : w1.heap.size < wb.heap.size := World.block_lt_of_cell? wb _ B0
      refine ⟨Sam.grown hO (by intro e; injection e with e; omega), hK _ _ ?_⟩
      clear hK K b0 b1 z0 z1 hBz hEz hwdz
      have hwS := hw.trans hEs
      generalize (wz.setCell ⟨p, 0, none⟩ (.int .i64 (frT (scoreOf es y2).toNat : Nat))).setCell ⟨p, 1, none⟩ (.int .i64 (frB (scoreOf es y2).toNat : Nat)) = ws at hO hBs hEs x0 x1 hwS ⊢
      have f0 := hBs.cell 0 (by simp)
      have f1 := hBs.cell 1 (by simp)
      rw [if_neg (by omega), if_pos rfl] at f0
      rw [if_pos rfl] at f1
      have q0 := hEs.keep B0
      have q1 := hEs.keep B1
      clear hO hBs hwz hBp hEr hwd
      repeat' (refine wpY_stepQ rfl rfl (fun K hK => ?_)
               go_simp
               try (rw [if_neg (by intro h; simp [undef] at h)])
               try split
               all_goals
                 first
                 | (refine hK _ ?_
                    clear hK K)
                 | (apply Exists.intro
                    refine ⟨fun wq hwq => ?_, hK _ ?_⟩
                    · have hcq := hwq.cellS
                      go_simp
                      first
                      | exact ⟨Ext.refl _, rfl⟩
                    clear hK K))
      refine wpY_nil (fun wy hwy => ?_)
      have q0 := hwy.keep q0
      have q1 := hwy.keep q1
      have x0 := hwy.keep x0
      have x1 := hwy.keep x1
      have f0 := hwy.keep f0
      have f1 := hwy.keep f1
      have hEr := hEs.trans hwy
      have hw := hwS.trans hwy
      clear hwy hEs hwS hH1 hpw hgp
      obtain ⟨wv, hwv⟩ : ∃ wv : World, wv = wy := ⟨_, rfl⟩
      subst hwv
      have hwWv := hw
      have hEs0 : Ext wv wv := Ext.refl _
      go_wp2_with fail
      refine ((HCS.out s HSL.out).at _ hEr).mono ?_
      rintro e w20 ⟨rfl, hw20⟩
      have m0 := new0 w20 (.int .i64 (frT (scoreOf es s).toNat : Nat)) [.int .i64 (frB (scoreOf es s).toNat : Nat)] 35
      have m1 := new1 w20 (.int .i64 (frT (scoreOf es s).toNat : Nat)) (.int .i64 (frB (scoreOf es s).toNat : Nat)) [] 35
      have hN := hw20.trans (Ext.new w20 (.cells #[.int .i64 (frT (scoreOf es s).toNat : Nat), .int .i64 (frB (scoreOf es s).toNat : Nat)] 35))
      have q0 := hN.keep q0
      have q1 := hN.keep q1
      have x0 := hN.keep x0
      have x1 := hN.keep x1
      have f0 := hN.keep f0
      have f1 := hN.keep f1
      have hEr := hEr.trans hN
      have hEs0 := hEs0.trans hN
      obtain ⟨g13, hg13⟩ : ∃ g : Nat, g = w20.heap.size := ⟨_, rfl⟩
      have HC1 := hide (HCM.out b y2)
      have HC2 := hide (HCM.out b s)
      have g1 := sgn_ge HYB.out
      have g2 := sgn_ge HSS.out.1
      have HZ : Hid (k = 1 → sgnA (scoreOf es b).toNat (scoreOf es s).toNat = 0) := hide (fun h => by rw [HSS.out.2 h]; exact sgn_eq _)
      generalize sgnA (scoreOf es b).toNat (scoreOf es y2).toNat = Z1 at HC1 g1
      generalize sgnA (scoreOf es b).toNat (scoreOf es s).toNat = Z2 at HC2 g2 HZ
      go_wp2_with fail
      rw [← hg13] at m0 m1 ⊢
      generalize w20.alloc (.cells #[.int .i64 (frT (scoreOf es s).toNat : Nat), .int .i64 (frB (scoreOf es s).toNat : Nat)] 35) = wt at m0 m1 hN q0 q1 x0 x1 f0 f1 hEr hEs0 ⊢
      clear hg13 hw20 hN
      refine (HC1.out _).mono ?_
      rintro e w21 ⟨rfl, hw21⟩
      have q0 := hw21.keep q0
      have q1 := hw21.keep q1
      have x0 := hw21.keep x0
      have x1 := hw21.keep x1
      have f0 := hw21.keep f0
      have f1 := hw21.keep f1
      have m0 := hw21.keep m0
      have m1 := hw21.keep m1
      have hEr := hEr.trans hw21
      have hEs0 := hEs0.trans hw21
      clear hw21
      go_wp2_with fail
      refine (HC2.out _).mono ?_
      rintro e w22 ⟨rfl, hw22⟩
      have q0 := hw22.keep q0
      have q1 := hw22.keep q1
      have x0 := hw22.keep x0
      have x1 := hw22.keep x1
      have f0 := hw22.keep f0
      have f1 := hw22.keep f1
      have m0 := hw22.keep m0
      have m1 := hw22.keep m1
      have hEr := hEr.trans hw22
      have hEs0 := hEs0.trans hw22
      clear hw22
      go_wp2_with fail
      refine (HAS.out _ hEr).mono ?_
      rintro e w23 ⟨asl, acl, rfl, hRs, hw23⟩
      have q0 := hw23.keep q0
      have q1 := hw23.keep q1
      have x0 := hw23.keep x0
      have x1 := hw23.keep x1
      have f0 := hw23.keep f0
      have f1 := hw23.keep f1
      have m0 := hw23.keep m0
      have m1 := hw23.keep m1
      have hEr := hEr.trans hw23
      have hEs0 := hEs0.trans hw23
      obtain ⟨bq, oq, rfl, hju⟩ := hRs.at_ (sT_at (es := es) (j := 0) (n := n) (by omega))
      have HRs := hide hRs
      have hwW := hwWv.trans hEs0
      clear hw23 hju hRs f0 f1 g1 g2 HC1 HCS HNUM HAS HCM HYB HRL HLL HLA dl hj hjl
      obtain ⟨we, hwe⟩ : ∃ we : World, we = w23 := ⟨_, rfl⟩
      subst hwe
      go_wp2_with fail
      go_loopw [15, 16, 17, 129] (fun tot _ _ i wr => ∃ m : Nat, m ≤ n ∧ i = .int .i64 m ∧ tot = .int .i64 (memS es b m) ∧ wr = we) (fun _ _ _ i _ => n - (intOf i).toNat)
      case atStart => exact ⟨0, Nat.zero_le _, rfl, by simp [memS], rfl⟩
      case round =>
        obtain ⟨m, hm, rfl, rfl, hwe⟩ := hrel
        subst hwe
        by_cases hlt : m < n
        · obtain ⟨b4, o4, e4, d4⟩ := HRs.out.at_ (sT_at (es := es) hlt)
          injection e4 with e4
          injection e4 with e4 e5
          subst e4
          subst e5
          have hm6 : m < 6 := by omega
          have hpw := pow_wrap hm6
          have hbt := bit_spec (s := (b : Int)) (by omega) (by omega) hm6
          have HMN := hide (memS_succ es b m)
          obtain ⟨a1, a2⟩ := HMS.out m
          obtain ⟨a3, a4⟩ := HVS.out m
          have a5 : memS es b m ≤ 60000 := by omega
          have hm1 : m + 1 ≤ n := hlt
          rw [one_bit] at hbt
          generalize memS es b m = A at HMN a1 a2 a5 ⊢
          generalize sumIf (fun s => bitAt s m) es = V at d4 HMN a3 a4
          cases hb : b.testBit m
          · rw [hb] at hbt HMN
            clear hb
            go_wp2
            exact ⟨⟨m + 1, hm1, by go_num, by rw [HMN.out]; simp, trivial⟩, by simp [intOf]; omega⟩
          · rw [hb] at hbt HMN
            clear hb
            go_wp2
            exact ⟨⟨m + 1, hm1, by go_num, by rw [HMN.out]; simp, trivial⟩, by simp [intOf]; omega⟩
        · have hmn : m = n := by omega
          rw [hmn]
          clear hmn hlt hm
          obtain ⟨wf, hwf⟩ : ∃ wf : World, wf = wr := ⟨_, rfl⟩
          subst hwf
          have HQ0 := q0
          have HQ1 := q1
          have HX0 := x0
          have HX1 := x1
          have HM0 := m0
          have HM1 := m1
          as_aux_lemma =>
            go_wp2_with fail
            go_loopw [18, 19, 20, 146] (fun tot _ _ i wr => ∃ m : Nat, m ≤ es.length ∧ i = .int .i64 m ∧ tot = .int .i64 (seaS (es.take m) b) ∧ Ext wf wr) (fun _ _ _ i _ => es.length - (intOf i).toNat)
            case atStart => exact ⟨0, Nat.zero_le _, rfl, by simp [seaS, sumM], Ext.refl _⟩
            case round =>
              obtain ⟨m, hm, rfl, rfl, hwr⟩ := hrel
              have q0 := hwr.keep HQ0
              have q1 := hwr.keep HQ1
              have x0 := hwr.keep HX0
              have x1 := hwr.keep HX1
              have m0 := hwr.keep HM0
              have m1 := hwr.keep HM1
              have hEw := hEr.trans hwr
              by_cases hlt : m < es.length
              · obtain ⟨v, hv⟩ := at_of_lt hlt
                obtain ⟨v1, v2⟩ := HSM.out v (List.mem_of_getElem? hv)
                have HSX := hide (HSE.out m v hv)
                have HAT := hide (seaS_at (b := b) hv)
                have hsb := HSB.out m hm
                have hcd := cnt_bd (landI (b : Int) v.1) 6
                obtain ⟨b4, o4, rfl, c0, c1⟩ := (HRP.out.ext hEw).at_ hv
                generalize cntTo (landI (b : Int) v.1) 6 = S at HSX HAT hcd
                generalize seaS (es.take m) b = A at HAT hsb ⊢
                have hp1 : 0 ≤ v.2 * S := Int.mul_nonneg (by omega) (by omega)
                have hp2 : v.2 * S ≤ 1000 * 6 := Int.mul_le_mul (by omega) (by omega) (by omega) (by omega)
                have e0 := new0 wr (.int .i64 v.1) [.int .i64 v.2] 41
                have e1 := new1 wr (.int .i64 v.1) (.int .i64 v.2) [] 41
                have hN := Ext.new wr (.cells #[.int .i64 v.1, .int .i64 v.2] 41)
                have q0 := hN.keep q0
                have q1 := hN.keep q1
                have hE2 := hEw.trans hN
                have hm1 : m + 1 ≤ es.length := hlt
                have hy : IntKind.i64.wrap (v.2 * S) = v.2 * S ∧ IntKind.i64.wrap (A + v.2 * S) = A + v.2 * S := ⟨IntWalk.i64_in _ (by omega), IntWalk.i64_in _ (by omega)⟩
                obtain ⟨y1, y2⟩ := hy
                clear hv hsb hcd hp1 hp2 v1 v2
                go_wp2
                refine wp_region_X (by kernel_rfl) (by kernel_rfl) ?_
                repeat' (refine wpX_stepQ (fun K hK => ?_)
                         go_simp
                         try (rw [if_neg (by intro h; simp [undef] at h)])
                         try split
                         all_goals
                           first
                           | (refine hK _ ?_
                              clear hK K)
                           | (apply Exists.intro
                              refine ⟨fun wq hwq => ?_, hK _ ?_⟩
                              · have hcq := hwq.cellS
                                go_simp
                                first
                                | exact ⟨Ext.refl _, rfl⟩
                                | exact ⟨Ext.refl _, HSX.out.at _ (hE2.trans hwq)⟩
                              clear hK K))
                refine wpX_nil (fun wz hwz => ?_)
                go_wp2
                exact ⟨⟨m + 1, hm1, by go_num, by rw [HAT.out], (hwr.trans hN).trans hwz⟩, by simp [intOf]; omega⟩
              · have hmn : m = es.length := by omega
                have HTK : Hid (seaS (es.take m) b = memS es b n) := hide (by rw [hmn, List.take_length]; exact HEQ.out)
                rw [HTK.out]
                have hwF := hwW.trans hwr
                generalize memS es b n = MS at HMS ⊢
                by_cases hk1 : k = 1
                · have t1 : ¬ (1 : Int) < (k : Int) := by omega
                  have t2 := HZ.out hk1
                  rw [t2] at HC2
                  clear hk1 t2
                  go_wp2_with fail
                  refine (HSZ.out.at _ hEw).mono ?_
                  rintro e w30 ⟨rfl, hw30⟩
                  have x0 := hw30.keep x0
                  have x1 := hw30.keep x1
                  have m0 := hw30.keep m0
                  have m1 := hw30.keep m1
                  go_wp2_with fail
                  refine (HC2.out _).mono ?_
                  rintro e w31 ⟨rfl, hw31⟩
                  go_wp2
                  go_ret
                  exact ⟨rfl, (hwF.trans hw30).trans hw31⟩
                · have t1 : (1 : Int) < (k : Int) := by omega
                  clear hk1
                  go_wp2_with fail
                  refine (HSZ.out.at _ hEw).mono ?_
                  rintro e w30 ⟨rfl, hw30⟩
                  go_wp2
                  go_ret
                  exact ⟨rfl, hwF.trans hw30⟩
  · go_enter Try.func3, Try.ntmps3
    go_wp2
    go_ret
    exact ⟨rfl, (by repeat (first | exact Ext.refl _ | assumption | refine Ext.alloc ?_ _ | refine Ext.drew ?_ | refine Ext.trans ?_ (by assumption)))⟩

section
open Go.ChangeShapes Go.WideShapes Go.ChangeAt Go.RowKit Go.Joins Go.Deep
set_option maxRecDepth 100000 in
theorem fnApprovals_lifted (os : Os) (started : os.Started) (H : Type) (enc : TypeId × Value → H) :
    ReturnsInHanded {} Try.checked os 3 .any (Rows.fnApprovalsSpec.pre6 enc Try.prog Try.f3 Rows.fnApprovalsRow.domain false) (Rows.fnApprovalsSpec.post enc Try.prog Try.f3 false true false false) := by
  refine returnsInHanded_of_change (C := Try.checked) own started (by kernel_rfl) Try.func3
    (ChangeSpec.witness6 (enc := enc) (C := Try.checked) false ⟨#[], #[.slice Option.none 0 0], []⟩ 8 (by kernel_rfl) (by kernel_rfl) (by kernel_rfl) (by kernel_rfl)) ?_
  intro W base args ds gs before hval0 hW hcnd _
  have hval : ∀ (j : Nat) t v, Try.f3.params[j]? = some t → args[j]? = some v → Value.okWide Try.prog W .any base t v := hval0
  have hW' := hW
  obtain ⟨p, q, hA0, hV, rfl, hfz, hnd⟩ := hW
  have hA : DataW.TrodAll enc Try.prog W 0 (fun _ => true) true Try.f3.params.toList args.toList ds p := hA0
  rw [Try.params3] at hA hval
  obtain ⟨v0, vs0, d0, ds0, p0, q0, hargs, rfl, rfl, h0, r0⟩ := trodAll_cons hA
  obtain ⟨rfl, rfl, rfl⟩ := trodAll_nil r0
  obtain rfl : args = #[v0] := by cases args; simp_all
  obtain ⟨rfl, rfl⟩ := trodVars_none hV
  have k0 := h0
  have lt0 : ∀ x ∈ p0, x.block < W.heap.size := by obtain ⟨m, hm⟩ := k0; exact DataW.trod_lt m _ _ _ hm
  obtain ⟨a0, bs0, c0, rfl, hR0, hl0⟩ := openY (hval 0 22 v0 rfl rfl) h0
  clear hA0 hval0
  refine (apr_law W a0 c0 bs0 hR0 hl0).mono fun e W' ⟨he, bel⟩ => ?_
  subst he
  exact ⟨_, rfl, _, _, _, [], _, [], hW', trodAll_mk1 (shut_bool Try.underlying4 _), (trodAll_cons_mk (Below.trod laidOut (by kernel_rfl) (of_decide_eq_true (by kernel_rfl)) k0 bel lt0) trodAll_mk0), rfl, bel.frame _, fun h => by cases h⟩

set_option maxRecDepth 100000 in
theorem fnApprovals_holds : Rows.FnApprovalsSaid :=
  OpenClaim.holds_of_wide 3 Try.f3 rfl rfl rfl rfl rfl rfl rfl ⟨rfl, rfl, rfl, rfl, rfl⟩ rfl rfl rfl rfl rfl (by kernel_rfl) Try.func3 (by kernel_rfl)
    (of_decide_eq_true (by kernel_rfl)) (by unfold Func.isWrapper; first | (rw [if_pos (by decide +kernel)]; kernel_rfl) | (rw [if_neg (by decide +kernel)]; exact ⟨rfl, rfl⟩))
    (fun os started H enc _ => fnApprovals_lifted os started H enc)
#print axioms fnApprovals_holds
end

end Go.Proofs.Ythiojkpoeejkaaa
