/- Schulze's winners. Who wins by each rule (plain definitions). The winners by paths: there is one (plain law). By each rule somebody wins, and it is a candidate (plain law). slices.Concat of two lists of integers. A row appended to an own matrix, with the frame told. All rankings, as the spec draws them. All rankings of the spec, from the start. -/
import Derived.Test.YtilcdnkkabmbfaaGreatCk12
import Derived.Test.YtilcdnkkabmbfaaGreatCk5
import Derived.Test.YtilcdnkkabmbfaaGreatCk6
import Derived.Test.YtilcdnkkabmbfaaGreatCk7
import Derived.Test.YtilcdnkkabmbfaaGreatCk9
import Derived.Test.YtilcdnkkabmbfaaGreatCk8
import Derived.Test.YtilcdnkkabmbfaaGreatCk11
import Derived.Lib.AppendZeros
import Derived.Test.YtilcdnkkabmbfaaGreatCk4
import Derived.Test.YtilcdnkkabmbfaaGreatCk2
namespace Go.Proofs.YtilcdnkkabmbfaaGreat
open Go.RowKit

def schP (n : Nat) (vs : List Vt) (i j : Nat) : Bool := decide (pthV n vs j i ≤ pthV n vs i j)
def schO (sz : Int) (vs : List Vt) : List Int := thoseO sz vs (schP sz.toNat vs)
set_option maxRecDepth 100000 in
theorem schO_len (sz : Int) (vs : List Vt) : (schO sz vs).length ≤ 5 := by
  unfold schO thoseO
  cases h0 : profOk sz vs
  · simp
  · obtain ⟨n, rfl, n1, n2⟩ := prof_nat h0
    have := upL_len n (thoseP n (schP n vs))
    simp; omega

set_option maxRecDepth 100000 in
theorem prof_of {n : Nat} {vs : List Vt} (n1 : 1 ≤ n) (n5 : n ≤ 5) (h : SmallV n vs) : profOk n vs = true := by
  unfold profOk
  rw [inR_iff.2 (show 1 ≤ (n : Int) ∧ (n : Int) ≤ 5 by omega), decide_eq_true h.1, Bool.true_and, Bool.true_and, List.all_eq_true]
  intro x hx
  obtain ⟨h1, h2, h3⟩ := h.2 x hx
  unfold vtOk
  rw [h1, inR_iff.2 ⟨h2, h3⟩]; rfl
set_option maxRecDepth 100000 in
/-- Two cells of a table that faces itself. -/
theorem WrSS.pair {w : World} {B : Nat} {a : Option Addr} {n c : Nat} {M : Nat → Nat → Int} (h : WrSS w B (.slice a n c) (tabL n M)) {i j : Nat} (hi : i < n) (hj : j < n) :
    ∃ g bi ci bj cj oi oj, a = some ⟨g, 0, none⟩ ∧ w.cell? ⟨g, i, none⟩ = some (.slice (some ⟨bi, oi, none⟩) n ci) ∧ w.cell? ⟨g, j, none⟩ = some (.slice (some ⟨bj, oj, none⟩) n cj) ∧
      w.cell? ⟨bi, oi + j, none⟩ = some (.int .i64 (M i j)) ∧ w.cell? ⟨bj, oj + i, none⟩ = some (.int .i64 (M j i)) := by
  obtain ⟨g, c1, ai, ci, e1, h1, _, r1⟩ := h.at_ (tabL_at (M := M) hi)
  obtain ⟨g2, c2, aj, cj, e2, h2, _, r2⟩ := h.at_ (tabL_at (M := M) hj)
  injection e1 with e1
  subst e1
  injection e2 with e2
  injection e2 with e2
  injection e2 with e2
  subst e2
  rw [rowL_len] at h1 h2
  obtain ⟨bi, oi, rfl, d1⟩ := r1.at_ (rowL_at (f := M i) hj)
  obtain ⟨bj, oj, rfl, d2⟩ := r2.at_ (rowL_at (f := M j) hi)
  exact ⟨g, bi, ci, bj, cj, oi, oj, rfl, h1, h2, d1, d2⟩

set_option maxRecDepth 100000 in
set_option maxHeartbeats 1000000 in
theorem schOne (w : World) (gs n i j : Nat) (vs : List Vt) (B : Nat) (a : Option Addr) (c : Nat) (h : WrSS w B (.slice a n c) (tabL n (pthV n vs))) (hg : w.cell? ⟨gs, 0, none⟩ = some (.slice a n c)) (hi : i < n) (hj : j < n) :
    Calls Tryz.prog 104 #[.int .i64 i, .int .i64 j, .pointer (some ⟨gs, 0, none⟩)] w fun e w' => e = .returned (.bool (schP n vs i j)) ∧ Ext w w' := by
  obtain ⟨g, bi, ci, bj, cj, oi, oj, rfl, h1, h2, d1, d2⟩ := h.pair hi hj
  clear h
  go_enter Tryz.func104, Tryz.ntmps104
  go_wp2
  refine wp_region_X (by kernel_rfl) (by kernel_rfl) ?_
  repeat' (refine wpX_stepQ (fun K hK => ?_)
           go_simp
           try (rw [if_neg (by intro h; simp [undef] at h)])
           try split
           all_goals
             first
             | (refine hK _ ?_
                clear hK K)
             | (apply Exists.intro
                refine ⟨fun wq hwq => ?_, hK _ ?_⟩
                · have hcq := hwq.cellS
                  go_simp
                  first
                  | exact ⟨Ext.refl _, rfl⟩
                clear hK K))
  refine wpX_nil (fun wz hwz => ?_)
  go_wp2
  go_ret
  exact ⟨ret_bool (by simp [schP]), (by repeat (first | exact Ext.refl _ | assumption | refine Ext.alloc ?_ _ | refine Ext.drew ?_ | refine Ext.trans ?_ (by assumption)))⟩

set_option maxRecDepth 100000 in
set_option maxHeartbeats 2000000 in
theorem sch_impl (w : World) (sz : Int) (a : Option Addr) (c : Nat) (vs : List Vt) (hR : RdV w a vs) :
    Calls Tryz.prog 50 #[.agg #[.int .i64 sz, .slice a vs.length c]] w fun e w' => ∃ v, e = .returned v ∧ OwnI w' w.heap.size v (schO sz vs) ∧ Ext w w' := by
  have q0 := new0 w (.int .i64 sz) [.slice a vs.length c] 29
  have q1 := new1 w (.int .i64 sz) (.slice a vs.length c) [] 29
  go_enter Tryz.func50, Tryz.ntmps50
  go_wp2_with fail
  refine (pth_impl _ sz a c vs (hR.ext (by repeat (first | exact Ext.refl _ | assumption | refine Ext.alloc ?_ _ | refine Ext.drew ?_ | refine Ext.trans ?_ (by assumption))))).mono ?_
  rintro e w1 ⟨v, rfl, hv, hw1⟩
  have q0 := Ext.keep (w' := w1) (by repeat (first | exact Ext.refl _ | assumption | refine Ext.alloc ?_ _ | refine Ext.drew ?_ | refine Ext.trans ?_ (by assumption))) q0
  have q1 := Ext.keep (w' := w1) (by repeat (first | exact Ext.refl _ | assumption | refine Ext.alloc ?_ _ | refine Ext.drew ?_ | refine Ext.trans ?_ (by assumption))) q1
  have hv0 := hv
  obtain ⟨av, cv, rfl, _, _⟩ := hv
  obtain ⟨L, hL⟩ : ∃ L : Nat, L = (pthO sz vs).length := ⟨_, rfl⟩
  rw [← hL] at hv0 ⊢
  have p0 := new0 w1 (.slice av L cv) [] 93
  have hE : Ext w (w1.alloc (.cells #[.slice av L cv] 93)) := (by repeat (first | exact Ext.refl _ | assumption | refine Ext.alloc ?_ _ | refine Ext.drew ?_ | refine Ext.trans ?_ (by assumption)))
  have HL := hide hL
  clear hL
  go_wp2_with fail
  have q0' := Ext.keep (Ext.new w1 (.cells #[.slice av L cv] 93)) q0
  have q1' := Ext.keep (Ext.new w1 (.cells #[.slice av L cv] 93)) q1
  refine (those_impl 104 #[.pointer (some ⟨w1.heap.size, 0, none⟩)] (schP sz.toNat vs) _ sz a c vs (hR.ext (by repeat (first | exact Ext.refl _ | assumption | refine Ext.alloc ?_ _ | refine Ext.drew ?_ | refine Ext.trans ?_ (by assumption)))) Tryz.call104 (fun n i j w' hn hn5 hS hi hj hw' => ?_)).mono ?_
  · subst hn
    have h0 := prof_of (by omega) hn5 hS
    · have e : pthO n vs = tabL n (pthV n vs) := by simp [pthO, h0]
      have hLn : L = n := by rw [HL.out, e, tabL_len]
      rw [e, hLn] at hv0
      rw [hLn] at p0
      exact schOne w' w1.heap.size n i j vs _ av cv ((hv0.ext (Ext.new w1 _)).ext (by rw [hLn] at hw'; exact hw')) (by rw [hLn] at hw'; exact hw'.keep p0) hi hj
  rintro e w2 ⟨v2, rfl, hv2, hw2⟩
  go_wp2
  go_ret
  exact ⟨_, rfl, hv2.base (Ext.size (by repeat (first | exact Ext.refl _ | assumption | refine Ext.alloc ?_ _ | refine Ext.drew ?_ | refine Ext.trans ?_ (by assumption)))), (by repeat (first | exact Ext.refl _ | assumption | refine Ext.alloc ?_ _ | refine Ext.drew ?_ | refine Ext.trans ?_ (by assumption)))⟩

set_option maxRecDepth 100000 in
theorem sch_those (n : Nat) (vs : List Vt) (i : Nat) : thoseP n (schP n vs) i = allN n (schP n vs i) := by
  have h : (fun j => decide (i = j) || schP n vs i j) = schP n vs i := by
    funext j
    by_cases e : i = j
    · subst e; simp [schP]
    · simp [e]
  unfold thoseP
  rw [h]

/-- The last one of a list, or -1. -/
def lastI (xs : List Int) : Int := xs.getLast?.getD (-1)
/-- Who wins by a rule. -/
noncomputable def winL (rule : Int) (n : Nat) (vs : List Vt) : List Int :=
  if rule = 1 then bestL (rowL n (scoV pluW vs)) else
  if rule = 2 then bestL (rowL n (scoV (borW n) vs)) else
  if rule = 3 then bestL (rowL n (scoV (vetW n) vs)) else
  if rule = 4 then bestL (copeO n vs) else
  if rule = 5 then bestL (maxiO n vs) else
  if rule = 6 then [runO n vs] else
  if rule = 7 then [lastI (elimO n vs (worF vs))] else
  if rule = 8 then [lastI (elimO n vs (worL vs))] else
  if rule = 9 then [lastI (elimO n vs (worP vs))] else
  if rule = 10 then [bukO n vs] else
  if rule = 11 then schO n vs else
  if rule = 12 then (prkO n vs).take 1 else
  if rule = 13 then (kemO n vs).take 1 else []
noncomputable def winO (rule sz : Int) (vs : List Vt) : List Int := if profOk sz vs then winL rule sz.toNat vs else []
noncomputable def winB (rule sz : Int) (vs : List Vt) : Int := (winO rule sz vs).headD (-1)
set_option maxRecDepth 100000 in
theorem len_if {c : Prop} [Decidable c] {xs ys : List Int} (hx : xs.length ≤ 5) (hy : ys.length ≤ 5) : (if c then xs else ys).length ≤ 5 := by split <;> assumption
set_option maxRecDepth 100000 in
theorem winO_len (rule sz : Int) (vs : List Vt) : (winO rule sz vs).length ≤ 5 := by
  unfold winO
  cases h0 : profOk sz vs
  · simp
  · obtain ⟨n, rfl, n1, n2⟩ := prof_nat h0
    have hb : ∀ xs : List Int, (bestL xs).length ≤ xs.length := fun xs => upL_len _ _
    have h1 := hb (rowL n (scoV pluW vs))
    have h2 := hb (rowL n (scoV (borW n) vs))
    have h3 := hb (rowL n (scoV (vetW n) vs))
    have h4 := hb (copeO n vs)
    have h5 := hb (maxiO n vs)
    have h6 := copeO_len n vs
    have h7 := maxiO_len n vs
    have h8 := schO_len n vs
    rw [rowL_len] at h1 h2 h3
    simp only [if_true, Int.toNat_natCast]
    unfold winL
    repeat' (first | exact h8 | apply len_if)
    all_goals first | omega | (simp; done) | (rw [List.length_take]; omega) | (simp; omega)

set_option maxRecDepth 100000 in
theorem allN_at {n : Nat} {p : Nat → Bool} (h : allN n p = true) {k : Nat} (hk : k < n) : p k = true := by
  unfold allN at h
  rw [List.all_eq_true] at h
  exact h k (List.mem_range.2 hk)
/-- Strengths that one may improve: no one of oneself, none negative. -/
structure FwOk (M : Nat → Nat → Int) : Prop where
  diag : ∀ x, M x x = 0
  pos : ∀ x y, 0 ≤ M x y
set_option maxRecDepth 100000 in
theorem fwB_at {M : Nat → Nat → Int} (h : FwOk M) (k a : Nat) : ∀ m x y, fwB M k a m x y = if x = a ∧ y < m ∧ x ≠ y then max (M x y) (min (M x k) (M k y)) else M x y
  | 0, x, y => by simp [fwB]
  | m + 1, x, y => by
    have d1 := h.diag k
    have p1 := h.pos a k
    have p2 := h.pos k m
    have e1 := fwB_at h k a m a m
    have e2 := fwB_at h k a m a k
    have e3 := fwB_at h k a m k m
    have e4 := fwB_at h k a m x y
    rw [if_neg (by omega)] at e1
    have e2' : fwB M k a m a k = M a k := by
      rw [e2]; split
      · rw [d1]; omega
      · rfl
    have e3' : fwB M k a m k m = M k m := by rw [e3, if_neg (by omega)]
    rw [fwB]; unfold fw1
    rw [e1, e2', e3', e4]
    by_cases hx : x = a
    · subst hx
      by_cases hy : y = m
      · subst hy
        by_cases hne : x = y
        · subst hne
          rw [if_neg (by omega), if_neg (by omega), if_neg (by omega)]
        · rw [if_pos ⟨rfl, rfl, hne⟩, if_pos (by omega)]
      · rw [if_neg (by omega)]
        by_cases hc : y < m ∧ x ≠ y
        · rw [if_pos (by omega), if_pos (by omega)]
        · rw [if_neg (by omega), if_neg (by omega)]
    · rw [if_neg (by omega), if_neg (by omega), if_neg (by omega)]
set_option maxRecDepth 100000 in
theorem fwB_ok {M : Nat → Nat → Int} (h : FwOk M) (k a m : Nat) : FwOk (fwB M k a m) := by
  refine ⟨fun x => ?_, fun x y => ?_⟩
  · rw [fwB_at h, if_neg (by omega)]; exact h.diag x
  · rw [fwB_at h]
    have := h.pos x y
    split <;> omega
set_option maxRecDepth 100000 in
theorem fwA_at {n : Nat} {M : Nat → Nat → Int} (h : FwOk M) (k : Nat) : ∀ i x y, fwA n M k i x y = if x < i ∧ y < n ∧ x ≠ y then max (M x y) (min (M x k) (M k y)) else M x y
  | 0, x, y => by simp [fwA]
  | i + 1, x, y => by
    have ih := fwA_at (n := n) h k i
    have hok : FwOk (fwA n M k i) := by
      refine ⟨fun x => ?_, fun x y => ?_⟩
      · rw [ih, if_neg (by omega)]; exact h.diag x
      · rw [ih]
        have := h.pos x y
        split <;> omega
    have d1 := h.diag k
    have p2 := h.pos k y
    have ek : fwA n M k i k y = M k y := by
      rw [ih]; split
      · rw [d1]; omega
      · rfl
    have e : fwA n M k (i + 1) x y = if x = i ∧ y < n ∧ x ≠ y then max (fwA n M k i x y) (min (fwA n M k i x k) (fwA n M k i k y)) else fwA n M k i x y := fwB_at hok k i n x y
    rw [ek] at e
    by_cases hx : x = i
    · have f1 : fwA n M k i x y = M x y := by rw [ih, if_neg (by omega)]
      have f2 : fwA n M k i x k = M x k := by rw [ih, if_neg (by omega)]
      rw [e, f1, f2]
      by_cases hc : y < n ∧ x ≠ y
      · rw [if_pos (by omega), if_pos (by omega)]
      · rw [if_neg (by omega), if_neg (by omega)]
    · rw [e, if_neg (by omega), ih]
      by_cases hc : x < i ∧ y < n ∧ x ≠ y
      · rw [if_pos hc, if_pos (by omega)]
      · rw [if_neg hc, if_neg (by omega)]
/-- Paths through the first k candidates are counted. -/
structure FwTo (n : Nat) (M : Nat → Nat → Int) (k : Nat) : Prop where
  ok : FwOk M
  tri : ∀ i a b, i < k → a < n → b < n → a ≠ b → min (M a i) (M i b) ≤ M a b
set_option maxRecDepth 100000 in
theorem fwA_to {n : Nat} {M : Nat → Nat → Int} {k : Nat} (h : FwTo n M k) (hk : k < n) : FwTo n (fwA n M k n) (k + 1) := by
  have hat := fun x y => fwA_at (n := n) h.ok k n x y
  refine ⟨⟨fun x => ?_, fun x y => ?_⟩, fun i a b hi ha hb hne => ?_⟩
  · rw [hat, if_neg (by omega)]; exact h.ok.diag x
  · rw [hat]
    have := h.ok.pos x y
    split <;> omega
  · have hin : i < n := by omega
    have pak := h.ok.pos a k
    have pkb := h.ok.pos k b
    have pab := h.ok.pos a b
    have pai := h.ok.pos a i
    have pib := h.ok.pos i b
    have dk := h.ok.diag k
    have di := h.ok.diag i
    have e3 := hat a b
    rw [if_pos ⟨ha, hb, hne⟩] at e3
    have e1 := hat a i
    have e2 := hat i b
    by_cases hik : i = k
    · subst hik
      have f1 : fwA n M i n a i = M a i := by
        rw [e1]; split
        · rw [di]; omega
        · rfl
      have f2 : fwA n M i n i b = M i b := by
        rw [e2]; split
        · rw [di]; omega
        · rfl
      rw [f1, f2, e3]; omega
    · have hlt : i < k := by omega
      by_cases hai : a = i
      · subst hai
        rw [if_neg (by omega)] at e1
        rw [e1, e3, di]; omega
      · by_cases hib : i = b
        · subst hib
          rw [if_neg (by omega)] at e2
          rw [e2, e3, di]; omega
        · rw [if_pos ⟨ha, hin, hai⟩] at e1
          rw [if_pos ⟨hin, hb, hib⟩] at e2
          rw [e1, e2, e3]
          have t1 := h.tri i a b hlt ha hb hne
          have t2 : a = k ∨ min (M a i) (M i k) ≤ M a k := by
            by_cases hak : a = k
            · exact .inl hak
            · exact .inr (h.tri i a k hlt ha hk hak)
          have t3 : k = b ∨ min (M k i) (M i b) ≤ M k b := by
            by_cases hkb : k = b
            · exact .inl hkb
            · exact .inr (h.tri i k b hlt hk hb hkb)
          have pki := h.ok.pos k i
          have pik := h.ok.pos i k
          rcases t2 with rfl | t2
          · rcases t3 with rfl | t3
            · exact absurd rfl hne
            · omega
          · rcases t3 with rfl | t3
            · omega
            · omega
set_option maxRecDepth 100000 in
theorem fw0_ok {sz : Int} {vs : List Vt} (hS : SmallV sz vs) : FwOk (fw0 vs) := by
  refine ⟨fun x => ?_, fun x y => ?_⟩
  · unfold fw0 bt; rw [beatsV_self]; simp
  · unfold fw0
    have := (sumV_bd' (p := fun r => prefB r (x : Int) (y : Int)) hS).1
    split
    · exact this
    · omega
set_option maxRecDepth 100000 in
theorem fwK_to {n : Nat} {sz : Int} {vs : List Vt} (hS : SmallV sz vs) : ∀ k, k ≤ n → FwTo n (fwK n (fw0 vs) k) k
  | 0, _ => ⟨fw0_ok hS, fun i _ _ hi => absurd hi (by omega)⟩
  | k + 1, hk => by
    rw [fwK]
    exact fwA_to (fwK_to hS k (by omega)) (by omega)
set_option maxRecDepth 100000 in
theorem pth_to {n : Nat} {sz : Int} {vs : List Vt} (hS : SmallV sz vs) : FwTo n (pthV n vs) n := fwK_to hS n (Nat.le_refl _)
set_option maxRecDepth 100000 in
/-- A relation that leads nowhere back has an end among the first n. -/
theorem last_of {R : Nat → Nat → Prop} (hirr : ∀ a, ¬ R a a) : ∀ n, 1 ≤ n → (∀ a b c, a < n → b < n → c < n → R a b → R b c → R a c) → ∃ a, a < n ∧ ∀ b, b < n → ¬ R b a
  | 0, h, _ => by omega
  | n + 1, _, ht => by
    by_cases h0 : n = 0
    · subst h0
      exact ⟨0, by omega, fun b hb => by
        have : b = 0 := by omega
        subst this; exact hirr 0⟩
    · obtain ⟨a, ha, hA⟩ := last_of (R := R) hirr n (by omega) (fun a b c h1 h2 h3 => ht a b c (by omega) (by omega) (by omega))
      by_cases hR : R n a
      · refine ⟨n, by omega, fun b hb => ?_⟩
        by_cases hbn : b = n
        · subst hbn; exact hirr b
        · exact fun hbR => hA b (by omega) (ht b n a (by omega) (by omega) (by omega) hbR hR)
      · refine ⟨a, by omega, fun b hb => ?_⟩
        by_cases hbn : b = n
        · subst hbn; exact hR
        · exact hA b (by omega)
set_option maxRecDepth 100000 in
theorem sch_trans {n : Nat} {M : Nat → Nat → Int} (h : FwTo n M n) {a b c : Nat} (ha : a < n) (hb : b < n) (hc : c < n) (h1 : M b a < M a b) (h2 : M c b < M b c) : M c a < M a c := by
  have hab : a ≠ b := fun e => by subst e; omega
  have hbc : b ≠ c := fun e => by subst e; omega
  have hac : a ≠ c := fun e => by subst e; omega
  have t1 := h.tri b a c hb ha hc hac
  have t2 := h.tri c b a hc hb ha (Ne.symm hab)
  have t3 := h.tri a c b ha hc hb (Ne.symm hbc)
  omega
set_option maxRecDepth 100000 in
/-- There is a winner by paths. -/
theorem sch_some {n : Nat} {vs : List Vt} (h0 : profOk n vs = true) : ∃ a, a < n ∧ ∀ b, b < n → pthV n vs b a ≤ pthV n vs a b := by
  have hS := prof_small h0
  have hp := pth_to (n := n) hS
  obtain ⟨a, ha, hA⟩ := last_of (R := fun b a => pthV n vs a b < pthV n vs b a) (fun a h => by omega) n (by have := prof_size h0; omega) (fun a b c h1 h2 h3 r1 r2 => sch_trans hp h1 h2 h3 r1 r2)
  exact ⟨a, ha, fun b hb => by have := hA b hb; omega⟩
set_option maxRecDepth 100000 in
theorem sch_mem {n : Nat} {vs : List Vt} (h0 : profOk n vs = true) {x : Int} : x ∈ schO n vs ↔ ∃ a : Nat, a < n ∧ x = a ∧ ∀ b, b < n → pthV n vs b a ≤ pthV n vs a b := by
  unfold schO thoseO
  rw [if_pos h0, Int.toNat_natCast, upL_mem]
  constructor
  · rintro ⟨i, hi, hq, rfl⟩
    refine ⟨i, hi, rfl, fun b hb => ?_⟩
    have h1 := allN_at hq hb
    by_cases e : i = b
    · subst e; exact Int.le_refl _
    · simpa [e, schP] using h1
  · rintro ⟨a, ha, rfl, h⟩
    refine ⟨a, ha, allN_t fun j hj => ?_, rfl⟩
    simp [schP, h j hj]
set_option maxRecDepth 100000 in
theorem sch_ne {n : Nat} {vs : List Vt} (h0 : profOk n vs = true) : schO n vs ≠ [] := by
  obtain ⟨a, ha, h⟩ := sch_some h0
  have : (a : Int) ∈ schO n vs := (sch_mem h0).2 ⟨a, ha, rfl, h⟩
  intro e
  rw [e] at this
  cases this

set_option maxRecDepth 100000 in
theorem best_head {n : Nat} {f : Nat → Int} (n1 : 1 ≤ n) : ∃ a : Nat, a < n ∧ ∃ r, bestL (rowL n f) = (a : Int) :: r := by
  obtain ⟨i, r, h1, _, h2, _⟩ := best_first (xs := rowL n f) (by rw [rowL_len]; exact n1)
  rw [rowL_len] at h2
  exact ⟨i, h2, r, h1⟩
set_option maxRecDepth 100000 in
theorem lastI_snoc (xs : List Int) (x : Int) : lastI (xs ++ [x]) = x := by simp [lastI]
set_option maxRecDepth 100000 in
theorem elim_last {n : Nat} (n1 : 1 ≤ n) (W : List Int → Int → Int) : ∃ a : Nat, a < n ∧ lastI (elimL n W n) = a := by
  obtain ⟨k, rfl⟩ : ∃ k, n = k + 1 := ⟨n - 1, by omega⟩
  have hl := leftL_elim (n := k + 1) W k (by omega)
  have hne : leftL (k + 1) (elimL (k + 1) W k) ≠ [] := fun e => by rw [e, List.length_nil] at hl; omega
  have hm := pickV_mem (f := W (leftL (k + 1) (elimL (k + 1) W k))) hne
  obtain ⟨i, hi, _, e⟩ := leftL_mem.1 hm
  exact ⟨i, hi, by rw [elimL, lastI_snoc]; exact e⟩
set_option maxRecDepth 100000 in
theorem next_lt {kept : List (List Int)} {n : Nat} (n1 : 1 ≤ n) (out : List Int) : ∃ a : Nat, a < n ∧ nextV kept n out = a := by
  unfold nextV
  split
  · rename_i i hi
    exact ⟨i, List.mem_range.1 (List.mem_of_find?_eq_some hi), rfl⟩
  · exact ⟨0, n1, rfl⟩
set_option maxRecDepth 100000 in
theorem prL_mem {kept : List (List Int)} {n : Nat} (n1 : 1 ≤ n) : ∀ k, ∀ x ∈ prL kept n k, ∃ a : Nat, a < n ∧ x = a
  | 0, x, h => by simp [prL] at h
  | k + 1, x, h => by
    rw [prL, List.mem_append] at h
    rcases h with h | h
    · exact prL_mem n1 k x h
    · rw [List.mem_singleton] at h
      subst h
      exact next_lt n1 _
set_option maxRecDepth 100000 in
theorem take_one {xs : List Int} {n : Nat} (h1 : 1 ≤ xs.length) (h : ∀ x ∈ xs, ∃ a : Nat, a < n ∧ x = a) : ∃ a : Nat, a < n ∧ ∃ r, xs.take 1 = (a : Int) :: r := by
  cases xs with
  | nil => simp at h1
  | cons x xs =>
    obtain ⟨a, ha, rfl⟩ := h x (by simp)
    exact ⟨a, ha, [], rfl⟩
set_option maxRecDepth 100000 in
theorem run_lt {n : Nat} {vs : List Vt} (h0 : profOk n vs = true) : ∃ a : Nat, a < n ∧ runO n vs = a := by
  have hsz := prof_size h0
  by_cases hn : n = 1
  · exact ⟨0, by omega, by rw [run_one h0 hn]; rfl⟩
  · have hl := srk_len (scoV pluW vs) n
    obtain ⟨x, hx⟩ := at_of_lt (xs := srk (scoV pluW vs) n) (k := 0) (by omega)
    obtain ⟨y, hy⟩ := at_of_lt (xs := srk (scoV pluW vs) n) (k := 1) (by omega)
    rw [run_two h0 hn hx hy]
    obtain ⟨i, hi, rfl⟩ := srk_mem (List.mem_of_getElem? hx)
    obtain ⟨j, hj, rfl⟩ := srk_mem (List.mem_of_getElem? hy)
    split
    · exact ⟨max i j, by omega, by omega⟩
    · exact ⟨min i j, by omega, by omega⟩
set_option maxRecDepth 100000 in
theorem elimO_eq {n : Nat} {vs : List Vt} (h0 : profOk n vs = true) (W : List Int → Int → Int) : elimO n vs W = elimL n W n := by unfold elimO; rw [if_pos h0, Int.toNat_natCast]
set_option maxRecDepth 100000 in
/-- The first of the winners is a candidate. -/
theorem win_some {rule : Int} {n : Nat} {vs : List Vt} (h0 : profOk n vs = true) (r1 : 1 ≤ rule) (r2 : rule ≤ 13) : ∃ a : Nat, a < n ∧ ∃ r, winL rule n vs = (a : Int) :: r := by
  have hsz := prof_size h0
  have n1 : 1 ≤ n := by omega
  have n2 : n ≤ 5 := by omega
  have one : ∀ {x : Int}, (∃ a : Nat, a < n ∧ x = a) → ∃ a : Nat, a < n ∧ ∃ r, [x] = (a : Int) :: r := fun {x} h => by
    obtain ⟨a, ha, rfl⟩ := h
    exact ⟨a, ha, [], rfl⟩
  have hr : rule = 1 ∨ rule = 2 ∨ rule = 3 ∨ rule = 4 ∨ rule = 5 ∨ rule = 6 ∨ rule = 7 ∨ rule = 8 ∨ rule = 9 ∨ rule = 10 ∨ rule = 11 ∨ rule = 12 ∨ rule = 13 := by omega
  rcases hr with rfl | rfl | rfl | rfl | rfl | rfl | rfl | rfl | rfl | rfl | rfl | rfl | rfl
  · show ∃ a : Nat, a < n ∧ ∃ r, bestL (rowL n (scoV pluW vs)) = (a : Int) :: r
    exact best_head n1
  · show ∃ a : Nat, a < n ∧ ∃ r, bestL (rowL n (scoV (borW n) vs)) = (a : Int) :: r
    exact best_head n1
  · show ∃ a : Nat, a < n ∧ ∃ r, bestL (rowL n (scoV (vetW n) vs)) = (a : Int) :: r
    exact best_head n1
  · show ∃ a : Nat, a < n ∧ ∃ r, bestL (copeO n vs) = (a : Int) :: r
    unfold copeO
    rw [if_pos h0, Int.toNat_natCast]
    exact best_head n1
  · show ∃ a : Nat, a < n ∧ ∃ r, bestL (maxiO n vs) = (a : Int) :: r
    unfold maxiO
    rw [if_pos h0, Int.toNat_natCast]
    exact best_head n1
  · show ∃ a : Nat, a < n ∧ ∃ r, [runO n vs] = (a : Int) :: r
    exact one (run_lt h0)
  · show ∃ a : Nat, a < n ∧ ∃ r, [lastI (elimO n vs (worF vs))] = (a : Int) :: r
    rw [elimO_eq h0]
    exact one (elim_last n1 _)
  · show ∃ a : Nat, a < n ∧ ∃ r, [lastI (elimO n vs (worL vs))] = (a : Int) :: r
    rw [elimO_eq h0]
    exact one (elim_last n1 _)
  · show ∃ a : Nat, a < n ∧ ∃ r, [lastI (elimO n vs (worP vs))] = (a : Int) :: r
    rw [elimO_eq h0]
    exact one (elim_last n1 _)
  · show ∃ a : Nat, a < n ∧ ∃ r, [bukO n vs] = (a : Int) :: r
    refine one ?_
    unfold bukO
    rw [if_pos h0, Int.toNat_natCast]
    obtain ⟨a, ha, r, e⟩ := best_head (f := wthV vs (levV n vs)) n1
    exact ⟨a, ha, by rw [e]; rfl⟩
  · show ∃ a : Nat, a < n ∧ ∃ r, schO n vs = (a : Int) :: r
    have hne := sch_ne h0
    cases h : schO n vs with
    | nil => exact absurd h hne
    | cons x r =>
      obtain ⟨a, ha, e, _⟩ := (sch_mem h0 (x := x)).1 (by rw [h]; simp)
      exact ⟨a, ha, r, by rw [e]⟩
  · show ∃ a : Nat, a < n ∧ ∃ r, (prkO n vs).take 1 = (a : Int) :: r
    have e : prkO n vs = prL (lokO n vs) n n := by unfold prkO; rw [if_pos h0, Int.toNat_natCast]
    rw [e]
    exact take_one (by rw [prL_len]; exact n1) (prL_mem n1 n)
  · show ∃ a : Nat, a < n ∧ ∃ r, (kemO n vs).take 1 = (a : Int) :: r
    have e : kemO n vs = (lstR (kemV vs) n).1 := by simp [kemO, lstO, h0]
    rw [e]
    have hm := (allO_mem n1 n2).1 (lstR_mem (cost := kemV vs) n1 n2).1
    exact take_one (by have := (rk_len hm).1; omega) (fun x hx => by
      have := rk_mem hm hx
      exact ⟨x.toNat, by omega, by omega⟩)
set_option maxRecDepth 100000 in
theorem winO_eq {rule : Int} {n : Nat} {vs : List Vt} (h0 : profOk n vs = true) : winO rule n vs = winL rule n vs := by unfold winO; rw [if_pos h0, Int.toNat_natCast]
set_option maxRecDepth 100000 in
theorem winB_some {rule : Int} {n : Nat} {vs : List Vt} (h0 : profOk n vs = true) (r1 : 1 ≤ rule) (r2 : rule ≤ 13) : ∃ a : Nat, a < n ∧ winB rule n vs = a := by
  obtain ⟨a, ha, r, e⟩ := win_some h0 r1 r2
  exact ⟨a, ha, by unfold winB; rw [winO_eq h0, e]; rfl⟩
set_option maxRecDepth 100000 in
theorem winL_out {rule : Int} {n : Nat} {vs : List Vt} (h : ¬ (1 ≤ rule ∧ rule ≤ 13)) : winL rule n vs = [] := by
  unfold winL
  repeat rw [if_neg (by omega)]
set_option maxRecDepth 100000 in
/-- Where somebody wins there is a profile and a rule. -/
theorem winB_pos {rule sz : Int} {vs : List Vt} (h : 0 ≤ winB rule sz vs) : profOk sz vs = true ∧ 1 ≤ rule ∧ rule ≤ 13 := by
  unfold winB winO at h
  cases h0 : profOk sz vs
  · rw [h0] at h; simp at h
  · refine ⟨rfl, ?_⟩
    by_cases hr : 1 ≤ rule ∧ rule ≤ 13
    · exact hr
    · rw [h0, if_pos rfl, winL_out hr] at h
      simp at h

set_option maxRecDepth 100000 in
theorem zeros_own {P : Program} (w : World) (t tn ty e : TypeId) (i : TypeInfo) (z : Value) (size bytes : Nat) (kn : IntKind) (ht : P.underlying t = some (.slice e)) (htn : P.underlying tn = some (.int kn)) (hi : P.info? e = some i) (hz : i.zero = some z)
    (hsize : i.size = size) (hby : i.bytes = bytes) (hzs : z.cells.size = size) (hsz : 0 < size) (n : Nat) (h0 : 0 < n) (hn : n ≤ 2000000) (hb : bytes ≤ 1000) :
    ∃ c w', (Builtin.append_ #[t, tn] ty #[.slice none 0 0, .int .i64 n]).run P w = .ok (.slice (some ⟨w.heap.size, 0, none⟩) n c) w' ∧ w'.ownsRow w.heap.size e size (.slice (some ⟨w.heap.size, 0, none⟩) 0 c) 0 [] ∧ Ext w w' ∧ 0 < c := by
  subst hsize
  subst hby
  have hbb : n * i.bytes ≤ 2000000 * 1000 := Nat.mul_le_mul hn hb
  have hr := Lib.run_append_nil_zeros (P := P) w t tn ty e i z .i64 kn ht htn hi hz n h0 hsz (by omega) (by omega)
  have hge := grownCap_ge w n 0 e
  refine ⟨_, _, hr, ?_, (Ext.refl w).drew.alloc _, by omega⟩
  have hs : (Builtin.zeroCells z.cells n ++ Builtin.zeroCells z.cells (grownCap w n 0 e - n)).size = grownCap w n 0 e * i.size := by
    rw [Array.size_append, size_zeroCells, size_zeroCells, hzs, ← Nat.add_mul]
    congr 1; omega
  exact World.ownsRow_made (base := w.heap.size) w.drew _ _ (Nat.le_refl _) (grownCap_le_maxLen w n 0 e (by unfold maxLen; omega)) hs

set_option maxRecDepth 100000 in
set_option maxHeartbeats 1000000 in
theorem grow_impl (w : World) (n : Nat) (hn : n ≤ 2000000) :
    Calls Tryz.prog 211 #[.slice none 0 0, .int .i64 n] w fun e w' => ∃ v, e = .returned v ∧ OwnI w' w.heap.size v [] ∧ Ext w w' := by
  obtain ⟨i0, hi, hz0, hz1, hz2⟩ := info_parts info_int
  by_cases h0 : n = 0
  · subst h0
    go_enter Tryz.func211, Tryz.ntmps211
    go_wp2
    go_ret
    exact ⟨_, rfl, OwnI.nil _ _, Ext.refl _⟩
  · obtain ⟨c, w', hr, hO, hE, hc⟩ := zeros_own (P := Tryz.prog) w 36 3 36 3 i0 (.int .i64 0) 1 8 .i64 Tryz.underlying36 Tryz.underlying3 hi hz0 hz1 hz2 rfl (by decide) n (by omega) hn (by decide)
    have hc0 : c ≠ 0 := by omega
    have hn0 : (0 : Int) < n := by omega
    have HR := hide hr
    clear hr
    go_enter Tryz.func211, Tryz.ntmps211
    go_wp2_with (at_builtin; refine Lib.wpList_append_run _ rfl _ _ _ _ rfl _ _ rfl rfl _ _ HR.out ?_)
    go_ret
    exact ⟨_, rfl, hO, hE⟩

set_option maxRecDepth 100000 in
set_option maxHeartbeats 4000000 in
theorem cat_impl (w : World) (g : Nat) (a1 a2 : Option Addr) (c1 c2 : Nat) (xs ys : List Int) (c0 : w.cell? ⟨g, 0, none⟩ = some (.slice a1 xs.length c1)) (c1' : w.cell? ⟨g, 1, none⟩ = some (.slice a2 ys.length c2))
    (hR1 : RdI w a1 xs) (hR2 : RdI w a2 ys) (hl : xs.length + ys.length ≤ 1000) :
    Calls Tryz.prog 194 #[.slice (some ⟨g, 0, none⟩) 2 2] w fun e w' => ∃ v, e = .returned v ∧ OwnI w' w.heap.size v (xs ++ ys) ∧ Ext w w' := by
  have h1 := c0
  have h2 := c1'
  have y1 : wrap64 (0 + (xs.length : Int)) = (xs.length : Int) := by rw [IntWalk.wrap64_in _ (by omega)]; omega
  have y2 : wrap64 ((xs.length : Int) + (ys.length : Int)) = (xs.length : Int) + (ys.length : Int) := IntWalk.wrap64_in _ (by omega)
  have z1 : ¬ ((xs.length : Int) < 0) := by omega
  have z2 : ¬ ((xs.length : Int) + (ys.length : Int) < 0) := by omega
  go_enter Tryz.func194, Tryz.ntmps194
  go_wp2_with fail
  go_loopw [3, 5, 11] (fun s _ i wr => ((i = .int .i64 0 ∧ s = .int .i64 0) ∨ (i = .int .i64 1 ∧ s = .int .i64 xs.length) ∨ (i = .int .i64 2 ∧ s = .int .i64 ((xs.length : Int) + (ys.length : Int)))) ∧ wr = w) (fun _ _ i _ => 2 - (intOf i).toNat)
  case atStart => exact ⟨.inl ⟨rfl, rfl⟩, rfl⟩
  case round =>
    obtain ⟨⟨rfl, rfl⟩ | ⟨rfl, rfl⟩ | ⟨rfl, rfl⟩, rfl⟩ := hrel
    · go_wp2
      exact ⟨⟨.inr (.inl ⟨rfl, rfl⟩), trivial⟩, by simp [intOf]⟩
    · go_wp2
      exact ⟨⟨.inr (.inr ⟨rfl, rfl⟩), trivial⟩, by simp [intOf]⟩
    · obtain ⟨wo, hwo⟩ : ∃ wo : World, wo = wr := ⟨_, rfl⟩
      subst hwo
      have hg := grow_impl wo (xs.length + ys.length) (by omega)
      rw [Int.natCast_add] at hg
      have HG := hide hg
      clear hg
      go_wp2_with fail
      refine HG.out.mono ?_
      rintro e w1 ⟨v, rfl, hO, hw1⟩
      have h1 := hw1.keep h1
      have h2 := hw1.keep h2
      go_wp2_with fail
      go_loopw [6, 8, 27] (fun v _ i wq => ((i = .int .i64 0 ∧ OwnI wq wo.heap.size v []) ∨ (i = .int .i64 1 ∧ OwnI wq wo.heap.size v xs) ∨ (i = .int .i64 2 ∧ OwnI wq wo.heap.size v (xs ++ ys))) ∧ Ext wo wq ∧ wq.cell? ⟨g, 0, none⟩ = some (.slice a1 xs.length c1) ∧ wq.cell? ⟨g, 1, none⟩ = some (.slice a2 ys.length c2)) (fun _ _ i _ => 2 - (intOf i).toNat)
      case atStart => exact ⟨.inl ⟨rfl, hO⟩, hw1, h1, h2⟩
      case round =>
        clear hO hw1 h1 h2
        obtain ⟨⟨rfl, hO⟩ | ⟨rfl, hO⟩ | ⟨rfl, hO⟩, hw, h1, h2⟩ := hrel
        · go_wp2_with (at_builtin; go_loud (refine wpList_appG wo.heap.size _ rfl _ _ rfl _ [] xs rfl (by exact hO) hw.size a1 xs.length c1 rfl rfl (hR1.ext hw) (by simp; omega) ?_); intro v1 w2 hO1 hg1 _)
          have hE := Ext.grown hw hg1 (ownsRow_block hO)
          exact ⟨⟨.inr (.inl ⟨rfl, hO1⟩), hE, hE.keep c0, hE.keep c1'⟩, by simp [intOf]⟩
        · go_wp2_with (at_builtin; go_loud (refine wpList_appG wo.heap.size _ rfl _ _ rfl _ xs ys rfl (by exact hO) hw.size a2 ys.length c2 rfl rfl (hR2.ext hw) (by omega) ?_); intro v1 w2 hO1 hg1 _)
          have hE := Ext.grown hw hg1 (ownsRow_block hO)
          exact ⟨⟨.inr (.inr ⟨rfl, hO1⟩), hE, hE.keep c0, hE.keep c1'⟩, by simp [intOf]⟩
        · go_wp2
          go_ret
          exact ⟨_, rfl, hO, hw⟩

set_option maxRecDepth 100000 in
theorem wpList_appSF {ops : Array Oper} {rest : List Oper} {o : Oper} {a : Act} {Q : Exit → Act → World → Prop} (W0 w0 w3 : World) (hgd : o.guard = none) (s x : Operand)
    (ho : o.op = .call { callee := .builtin .append, args := #[s, x], argTypes := #[93, 93] }) (v : Value) (xss : List (List Int)) (u : Value) (xs : List Int) (hs : a.eval s = v)
    (hown : OwnSS w0 W0.heap.size v xss) (hW0 : Ext W0 w0) (hw : Ext w0 w3) (hu : OwnI w3 w0.heap.size u xs)
    (hx : a.eval x = .slice (some ⟨w3.heap.size, 0, none⟩) 1 1) (hlen : xss.length ≤ 2000000)
    (h : ∀ v' w', OwnSS w' W0.heap.size v' (xss ++ [xs]) → Ext W0 w' → w3.grownBy w' v.ownBlock → Fresh w3 v v' → wpList Tryz.prog ops Q rest (a.put o.dst v') w') : wpList Tryz.prog ops Q (o :: rest) a (w3.alloc (.cells #[u] 36)) := by
  obtain ⟨i0, hi, hz0, hz1, hz2⟩ := info_parts info_row
  obtain ⟨cs, h1, h2, h3, h4⟩ := hown
  have h1a := ownsRow_ext h1 (hw.alloc (.cells #[u] 36))
  have hW3 : Ext W0 (w3.alloc (.cells #[u] 36)) := (hW0.trans hw).alloc _
  obtain ⟨v', w', hr, h5, h6, hfr⟩ := run_append_fresh (P := Tryz.prog) (w3.alloc (.cells #[u] 36)) W0.heap.size 93 o.type 36 i0 (.slice none 0 0) 1 24 Tryz.underlying93 hi hz0 hz1 hz2 rfl (by decide) v cs.length _ h1a ⟨w3.heap.size, 0, none⟩ 1 1 [u] rfl
    (fun j z hj => by
      match j, hj with
      | 0, hj => simp at hj; subst hj; simp [Addr.add])
    (fun z hz => by simp at hz; subst hz; exact hu.slice) (by decide) (by unfold maxLen; omega) (by omega) hW3.size
  refine wpList_plain hgd fun K hK => ?_
  unfold Oper.wp execOp
  simp only [ho, resolve, invoke, builtin, Sem.run_bind, Sem.run_pure, Result.andThen_ok, List.map_toArray, List.map_cons, List.map_nil, hs, hx, hr]
  refine hK _ _ ?_
  · have hgz : w3.grownBy w' v.ownBlock := ⟨h6.os, h6.tape, h6.output, Nat.le_trans (by simp) h6.size, fun k hk hne => (h6.block k (by simp; omega) hne).trans (Below.block (Ext.new w3 (.cells #[u] 36)) k hk)⟩
    have hfz : Fresh w3 v v' := by
      rcases hfr with hfr | hfr
      · exact .inl hfr
      · exact .inr (fun k hk => by have := hfr k hk; simp at this; omega)
    have huw := hu.ext (Ext.new w3 (.cells #[u] 36))
    refine h v' w' ⟨cs ++ [u], by simpa using h5, by simp [h2], fun j ys hy => ?_, fun i j z z' k hne hz hz' hk => ?_⟩ (hW3.grown h6 (ownsRow_block h1a)) hgz hfz
    · rcases Nat.lt_or_ge j xss.length with hlt | hge
      · rw [List.getElem?_append_left hlt] at hy
        obtain ⟨z, hz, hO⟩ := h3 j ys hy
        refine ⟨z, by rw [List.getElem?_append_left (by omega)]; exact hz, ?_⟩
        have hO' := hO.ext (hw.alloc (.cells #[u] 36))
        exact hO'.keepRow h6 (own_ne' hO' h1a)
      · rw [List.getElem?_append_right hge] at hy
        have hj : j - xss.length = 0 := by have := lt_of_at hy; simp at this; omega
        rw [hj] at hy
        simp at hy
        subst hy
        refine ⟨u, by rw [List.getElem?_append_right (by omega), h2, hj]; rfl, ?_⟩
        exact (huw.keepRow h6 (own_ne' huw h1a)).base hW0.size
    · have low : ∀ (i : Nat) (z : Value) (k : Nat), cs[i]? = some z → z.ownBlock = some k → k < w0.heap.size := fun i z k hz hk => by
        obtain ⟨ys, hy⟩ := at_of_lt (xs := xss) (k := i) (by have := lt_of_at hz; omega)
        obtain ⟨z', hz', hO⟩ := h3 i ys hy
        rw [hz] at hz'
        injection hz' with hz'
        subst hz'
        exact (World.ownsRow.lt hO k hk).2
      have new : ∀ k, u.ownBlock = some k → w0.heap.size ≤ k := fun k hk => (World.ownsRow.lt hu k hk).1
      rcases Nat.lt_or_ge i cs.length with hil | hil
      · rw [List.getElem?_append_left hil] at hz
        rcases Nat.lt_or_ge j cs.length with hjl | hjl
        · rw [List.getElem?_append_left hjl] at hz'
          exact h4 i j z z' k hne hz hz' hk
        · rw [List.getElem?_append_right hjl] at hz'
          have hj : j - cs.length = 0 := by have := lt_of_at hz'; simp at this; omega
          rw [hj] at hz'
          simp at hz'
          subst hz'
          intro e
          have := low i z k hz hk
          have := new k e
          omega
      · rw [List.getElem?_append_right hil] at hz
        have hi0 : i - cs.length = 0 := by have := lt_of_at hz; simp at this; omega
        rw [hi0] at hz
        simp at hz
        subst hz
        rcases Nat.lt_or_ge j cs.length with hjl | hjl
        · rw [List.getElem?_append_left hjl] at hz'
          intro e
          have := low j z' k hz' e
          have := new k hk
          omega
        · rw [List.getElem?_append_right hjl] at hz'
          have hj0 : j - cs.length = 0 := by have := lt_of_at hz'; simp at this; omega
          omega

set_option maxRecDepth 100000 in
theorem grown_next {w wr w' : World} {v vr v' : Value} (h : w.grownBy wr v.ownBlock) (hf : Fresh w v vr) (h2 : wr.grownBy w' vr.ownBlock) (hf2 : Fresh wr vr v') : w.grownBy w' v.ownBlock ∧ Fresh w v v' := by
  have hs := h.size
  refine ⟨⟨h2.os.trans h.os, h2.tape.trans h.tape, h2.output.trans h.output, Nat.le_trans h.size h2.size, fun k hk hne => ?_⟩, ?_⟩
  · refine (h2.block k (by omega) (fun e => ?_)).trans (h.block k hk hne)
    rcases hf with hf | hf
    · exact hne (by rw [← hf]; exact e)
    · have := hf k e.symm; omega
  · rcases hf2 with hf2 | hf2
    · rcases hf with hf | hf
      · exact .inl (hf2.trans hf)
      · exact .inr (fun k hk => hf k (by rw [← hf2]; exact hk))
    · exact .inr (fun k hk => by have := hf2 k hk; omega)
set_option maxRecDepth 100000 in
theorem place_in {xs : List Int} {a : Int} : placeI xs a < 0 ↔ a ∉ xs := by
  have h := findI_nonneg (fun y => a == y) xs
  have h1 : (0 ≤ placeI xs a) ↔ a ∈ xs := by
    unfold placeI
    constructor
    · intro h0
      have : xs.any (fun y => a == y) = true := by rw [← h]; simpa using h0
      obtain ⟨y, hy, e⟩ := List.any_eq_true.1 this
      have : a = y := by simpa using e
      rw [this]; exact hy
    · intro hm
      have : xs.any (fun y => a == y) = true := List.any_eq_true.2 ⟨a, hm, by simp⟩
      rw [← h] at this
      simpa using this
  constructor
  · intro h0 hm; have := h1.2 hm; omega
  · intro hm; by_cases h0 : 0 ≤ placeI xs a
    · exact absurd (h1.1 h0) hm
    · omega

/-- What has been drawn of the orders that begin with `pre`, the next one below j. -/
def allTo (n k : Nat) (pre : List Int) (j : Nat) : List (List Int) := (upL j (notIn pre)).flatMap (fun x => allS n k (pre ++ [x]))
set_option maxRecDepth 100000 in
theorem allTo_succ (n k : Nat) (pre : List Int) (j : Nat) : allTo n k pre (j + 1) = allTo n k pre j ++ if notIn pre j then allS n k (pre ++ [(j : Int)]) else [] := by
  unfold allTo
  rw [upL_succ, List.flatMap_append]
  split <;> simp
set_option maxRecDepth 100000 in
theorem allS_len {n : Nat} (n2 : n ≤ 5) : ∀ (k : Nat) (pre : List Int), (allS n k pre).length ≤ 5 ^ k
  | 0, pre => by simp [allS]
  | k + 1, pre => by
    have key : ∀ j, (allTo n k pre j).length ≤ j * 5 ^ k := by
      intro j
      induction j with
      | zero => simp [allTo, upL]
      | succ j ih =>
        rw [allTo_succ, List.length_append, Nat.succ_mul]
        have h := allS_len n2 k (pre ++ [(j : Int)])
        split
        · omega
        · simp; omega
    have h := key n
    have h2 : n * 5 ^ k ≤ 5 * 5 ^ k := Nat.mul_le_mul_right _ n2
    rw [Nat.pow_succ, Nat.mul_comm]
    show (allTo n k pre n).length ≤ _
    omega
set_option maxRecDepth 100000 in
theorem allTo_len {n : Nat} (n2 : n ≤ 5) (k : Nat) (pre : List Int) : ∀ j, (allTo n k pre j).length ≤ j * 5 ^ k := by
  intro j
  induction j with
  | zero => simp [allTo, upL]
  | succ j ih =>
    rw [allTo_succ, List.length_append, Nat.succ_mul]
    have h := allS_len n2 k (pre ++ [(j : Int)])
    split
    · omega
    · simp; omega

open Go.RowKit

end Go.Proofs.YtilcdnkkabmbfaaGreat
