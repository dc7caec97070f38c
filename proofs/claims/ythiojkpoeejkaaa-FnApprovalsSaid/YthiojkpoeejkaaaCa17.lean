/- Condorcet winner and loser, the unbeaten. How many rank a candidate among the first k. Eliminations, as lists: who goes next, and in which order all go. -/
import Derived.Test.YthiojkpoeejkaaaCa15
import Derived.Test.YthiojkpoeejkaaaCa16
import Derived.Test.YthiojkpoeejkaaaCa7
import Derived.Test.YthiojkpoeejkaaaCa14
namespace Go.Proofs.Ythiojkpoeejkaaa
open Go.RowKit

def fullI (xs : List Int) : Int := findI (fun x => x == (xs.length : Int) - 1) xs

set_option maxRecDepth 100000 in
theorem allN_iff {n : Nat} {p : Nat → Bool} : allN n p = true ↔ ∀ j, j < n → p j = true := by
  unfold allN; rw [List.all_eq_true]
  exact ⟨fun h j hj => h j (List.mem_range.2 hj), fun h x hx => h x (List.mem_range.1 hx)⟩
set_option maxRecDepth 100000 in
theorem cntN_all {n : Nat} {p : Nat → Bool} : cntN n p = n ↔ allN n p = true := by
  rw [allN_iff]
  unfold cntN
  have h := List.countP_eq_length (p := p) (l := List.range n)
  rw [List.length_range] at h
  rw [h]
  exact ⟨fun h j hj => h j (List.mem_range.2 hj), fun h x hx => h x (List.mem_range.1 hx)⟩
set_option maxRecDepth 100000 in
theorem cntN_none {n : Nat} {p : Nat → Bool} : cntN n p = 0 ↔ allN n (fun j => !p j) = true := by
  rw [allN_iff]
  unfold cntN
  rw [List.countP_eq_zero]
  exact ⟨fun h j hj => by have := h j (List.mem_range.2 hj); simpa using this, fun h x hx => by have := h x (List.mem_range.1 hx); simpa using this⟩
set_option maxRecDepth 100000 in
theorem cntN_but (i : Nat) (q : Nat → Bool) (hi : q i = false) : ∀ k, cntN k (fun j => decide (i = j) || q j) = cntN k q + if i < k then 1 else 0
  | 0 => by simp [cntN]
  | k + 1 => by
    rw [cntN_succ, cntN_succ, cntN_but i q hi k]
    by_cases e : i = k
    · subst e
      simp [hi]
    · by_cases h : i < k
      · have h3 : i < k + 1 := by omega
        simp [e, h, h3]; omega
      · have h3 : ¬ i < k + 1 := by omega
        simp [e, h, h3]
set_option maxRecDepth 100000 in
theorem full_those {n i : Nat} {B : Nat → Nat → Bool} (hi : i < n) (h : B i i = false) : (cntN n (B i) = n - 1) ↔ thoseP n B i = true := by
  unfold thoseP
  rw [← cntN_all, cntN_but i (B i) h n, if_pos hi]
  omega
set_option maxRecDepth 100000 in
theorem upL_one {n i : Nat} {q : Nat → Bool} (hi : i < n) (h : q i = true) (hu : ∀ j, j < n → q j = true → j = i) : upL n q = [(i : Int)] := by
  have key : ∀ k, k ≤ n → upL k q = if i < k then [(i : Int)] else [] := by
    intro k
    induction k with
    | zero => intro _; simp [upL]
    | succ k ih =>
      intro hk
      rw [upL_succ, ih (by omega)]
      by_cases e : k = i
      · subst e; simp [h]
      · have hq : q k = false := by
          cases hq : q k
          · rfl
          · exact absurd (hu k (by omega) hq) e
        rw [hq]
        by_cases h2 : i < k
        · have h3 : i < k + 1 := by omega
          simp [h2, h3]
        · have h3 : ¬ i < k + 1 := by omega
          simp [h2, h3]
  rw [key n (Nat.le_refl _), if_pos hi]
set_option maxRecDepth 100000 in
theorem upL_none {n : Nat} {q : Nat → Bool} (h : ∀ j, j < n → q j = false) : upL n q = [] := by
  unfold upL
  rw [List.map_eq_nil_iff, List.filter_eq_nil_iff]
  intro x hx
  rw [h x (List.mem_range.1 hx)]; simp

set_option maxRecDepth 100000 in
theorem full_only {n : Nat} {B : Nat → Nat → Bool} (hn : 1 ≤ n) (ha : ∀ i j, B i j = true → B j i = false) :
    fullI (rowL n (fun i => (cntN n (B i) : Nat))) = onlyL (upL n (thoseP n B)) := by
  have hirr : ∀ i, B i i = false := fun i => by
    cases h : B i i
    · rfl
    · have := ha i i h
      rw [h] at this; cases this
  have hu : ∀ i j, i < n → j < n → thoseP n B i = true → thoseP n B j = true → j = i := fun i j hi hj h1 h2 => by
    by_cases e : j = i
    · exact e
    · have a1 := allN_iff.1 h1 j hj
      have a2 := allN_iff.1 h2 i hi
      simp only [Bool.or_eq_true, decide_eq_true_eq] at a1 a2
      rcases a1 with a1 | a1
      · exact a1.symm
      · rcases a2 with a2 | a2
        · exact a2
        · rw [ha i j a1] at a2; cases a2
  have hp : ∀ i, i < n → ((((cntN n (B i) : Nat) : Int) == ((n : Int) - 1)) = thoseP n B i) := fun i hi => by
    have h1 := full_those (B := B) hi (hirr i)
    cases h2 : thoseP n B i
    · have : ¬ cntN n (B i) = n - 1 := fun h => by rw [h1.1 h] at h2; cases h2
      simp; omega
    · have := h1.2 h2
      simp; omega
  unfold fullI
  rw [rowL_len]
  by_cases hex : ∃ i, i < n ∧ thoseP n B i = true
  · obtain ⟨i, hi, hq⟩ := hex
    rw [upL_one hi hq (fun j hj hj2 => hu i j hi hj hq hj2)]
    refine findI_some (rowL_at hi) ?_ (by rw [hp i hi]; exact hq)
    rw [List.all_eq_true]
    intro x hx
    obtain ⟨j, hj⟩ := List.getElem?_of_mem hx
    have hjl := lt_of_at hj
    rw [List.length_take] at hjl
    rw [List.getElem?_take_of_lt (by omega)] at hj
    obtain ⟨hjn, rfl⟩ := rowL_val hj
    rw [hp j hjn]
    cases h2 : thoseP n B j
    · rfl
    · have := hu i j hi hjn hq h2
      omega
  · have hno : ∀ j, j < n → thoseP n B j = false := fun j hj => by
      cases h : thoseP n B j
      · rfl
      · exact absurd ⟨j, hj, h⟩ hex
    rw [upL_none hno]
    refine findI_none ?_
    rw [List.all_eq_true]
    intro x hx
    obtain ⟨j, hj⟩ := List.getElem?_of_mem hx
    obtain ⟨hjn, rfl⟩ := rowL_val hj
    rw [hp j hjn, hno j hjn]; rfl

set_option maxRecDepth 100000 in
theorem bt_anti (vs : List Vt) (i j : Nat) (h : bt vs i j = true) : bt vs j i = false := by
  simp only [bt, beatsV, decide_eq_true_eq, decide_eq_false_iff_not] at *; omega

set_option maxRecDepth 100000 in
theorem sumV_nil (p : List Int → Bool) : sumV p [] = 0 := by simp [sumV]
set_option maxRecDepth 100000 in
theorem sumV_cons (p : List Int → Bool) (x : Vt) (vs : List Vt) : sumV p (x :: vs) = (if p x.1 then x.2 else 0) + sumV p vs := by
  unfold sumV
  cases h : p x.1 <;> simp [h]
set_option maxRecDepth 100000 in
theorem sumV_none : ∀ vs : List Vt, sumV (fun _ => false) vs = 0
  | [] => rfl
  | x :: vs => by rw [sumV_cons, sumV_none vs]; simp
set_option maxRecDepth 100000 in
theorem sumV_all : ∀ vs : List Vt, sumV (fun _ => true) vs = (vs.map Prod.snd).sum
  | [] => rfl
  | x :: vs => by rw [sumV_cons, sumV_all vs]; simp
set_option maxRecDepth 100000 in
theorem sumV_congr {p q : List Int → Bool} : ∀ {vs : List Vt}, (∀ x ∈ vs, p x.1 = q x.1) → sumV p vs = sumV q vs
  | [], _ => rfl
  | x :: vs, h => by rw [sumV_cons, sumV_cons, h x (by simp), sumV_congr (fun y hy => h y (by simp [hy]))]
set_option maxRecDepth 100000 in
theorem sumV_add {p q r : List Int → Bool} : ∀ {vs : List Vt}, (∀ x ∈ vs, r x.1 = (p x.1 || q x.1) ∧ (p x.1 && q x.1) = false) → sumV r vs = sumV p vs + sumV q vs
  | [], _ => by simp [sumV]
  | x :: vs, h => by
    obtain ⟨h1, h2⟩ := h x (by simp)
    rw [sumV_cons, sumV_cons, sumV_cons, h1, sumV_add (fun y hy => h y (by simp [hy]))]
    cases hp : p x.1 <;> cases hq : q x.1 <;> simp [hp, hq] at h2 ⊢ <;> omega
set_option maxRecDepth 100000 in
theorem SmallV.tail {sz : Int} {x : Vt} {vs : List Vt} (h : SmallV sz (x :: vs)) : SmallV sz vs := ⟨by have := h.1; simp at this; omega, fun y hy => h.2 y (by simp [hy])⟩

def wthP (a k : Nat) (r : List Int) : Bool := decide (placeI r a < (k : Int))
def wthV (vs : List Vt) (k a : Nat) : Int := sumV (wthP a k) vs
def sumN (f : Nat → Int) : Nat → Int
  | 0 => 0
  | k + 1 => sumN f k + f k
set_option maxRecDepth 100000 in
theorem wth_sum {n a : Nat} {vs : List Vt} (hS : SmallV n vs) (ha : a < n) : ∀ k, sumN (plcV vs a) k = wthV vs k a
  | 0 => by
    unfold sumN wthV
    rw [sumV_congr (q := fun _ => false) (fun x hx => by
      obtain ⟨p, _, hp, _⟩ := place_at (hS.2 x hx).1 ha
      simp [wthP, hp])]
    exact (sumV_none vs).symm
  | k + 1 => by
    unfold sumN
    rw [wth_sum hS ha k]
    unfold wthV plcV
    refine (sumV_add fun x hx => ?_).symm
    obtain ⟨p, _, hp, h1, h2⟩ := place_at (hS.2 x hx).1 ha
    have e : plcP a k x.1 = decide (p = k) := by
      by_cases e : p = k
      · subst e; simp [plcP, h1]
      · simp only [plcP, e, decide_false, beq_eq_false_iff_ne]
        exact fun h3 => e (h2 k h3).symm
    rw [e]
    unfold wthP
    rw [hp]
    by_cases h3 : p = k
    · have h4 : (p : Int) < ((k + 1 : Nat) : Int) := by omega
      have h5 : ¬ (p : Int) < (k : Int) := by omega
      rw [decide_eq_true h4, decide_eq_false h5, decide_eq_true h3]; simp
    · by_cases h4 : (p : Int) < (k : Int)
      · have h5 : (p : Int) < ((k + 1 : Nat) : Int) := by omega
        rw [decide_eq_true h4, decide_eq_true h5, decide_eq_false h3]; simp
      · have h5 : ¬ (p : Int) < ((k + 1 : Nat) : Int) := by omega
        rw [decide_eq_false h4, decide_eq_false h5, decide_eq_false h3]; simp
set_option maxRecDepth 100000 in
theorem sumN_bd {f : Nat → Int} {M : Int} (h : ∀ j, 0 ≤ f j ∧ f j ≤ M) : ∀ k, 0 ≤ sumN f k ∧ sumN f k ≤ M * k
  | 0 => by simp [sumN]
  | k + 1 => by
    have h1 := sumN_bd h k
    have h2 := h k
    unfold sumN
    have : M * ((k + 1 : Nat) : Int) = M * k + M := by rw [Int.natCast_succ, Int.mul_add]; simp
    omega
set_option maxRecDepth 100000 in
theorem wthV_bd {n : Int} {vs : List Vt} (hS : SmallV n vs) (k a : Nat) : 0 ≤ wthV vs k a ∧ wthV vs k a ≤ 24000 := sumV_bd' hS

set_option maxRecDepth 100000 in
/-- A row of a matrix of the call's own. -/
theorem WrSS.at_ {w : World} {B : Nat} {v : Value} {xss : List (List Int)} (h : WrSS w B v xss) {k : Nat} {xs : List Int} (hx : xss[k]? = some xs) :
    ∃ g c a' c', v = .slice (some ⟨g, 0, none⟩) xss.length c ∧ w.cell? ⟨g, k, none⟩ = some (.slice a' xs.length c') ∧ xs.length ≤ c' ∧ RdI w a' xs := by
  obtain ⟨a, c, hv, hc, ho⟩ := h
  obtain ⟨g, us, rfl, hM⟩ := ho (ne_of_at hx)
  have h1 := hM.row k (lt_of_at hx)
  simp only [List.getD, hx, Option.getD_some] at h1
  obtain ⟨a', c', hu, hc', _, hR, _⟩ := h1.val
  exact ⟨g, c, a', c', hv, by rw [hM.outer.cell k (lt_of_at hx), hu], hc', hR⟩

set_option maxRecDepth 100000 in
set_option maxHeartbeats 1000000 in
theorem wthOne (w : World) (g1 g2 i k : Nat) (a : Option Addr) (c : Nat) (xs : List Int) (h1 : w.cell? ⟨g1, 0, none⟩ = some (.int .i64 i)) (h2 : w.cell? ⟨g2, 0, none⟩ = some (.int .i64 k)) (hR : RdI w a xs) (hl : xs.length ≤ 2000000) :
    Calls Try.prog 203 #[.slice a xs.length c, .pointer (some ⟨g1, 0, none⟩), .pointer (some ⟨g2, 0, none⟩)] w fun e w' => e = .returned (.bool (wthP i k xs)) ∧ Ext w w' := by
  go_enter Try.func203, Try.ntmps203
  go_wp2
  refine wp_region_X (by kernel_rfl) (by kernel_rfl) ?_
  repeat' (refine wpX_stepQ (fun K hK => ?_)
           go_simp
           try (rw [if_neg (by intro h; simp [undef] at h)])
           try split
           all_goals
             first
             | (refine hK _ ?_
                clear hK K)
             | (apply Exists.intro
                refine ⟨fun wq hwq => ?_, hK _ ?_⟩
                · have hcq := hwq.cellS
                  go_simp
                  first
                  | exact ⟨Ext.refl _, rfl⟩
                  | exact ⟨Ext.refl _, place_impl _ _ _ _ _ (hR.ext (by repeat (first | exact Ext.refl _ | assumption | refine Ext.alloc ?_ _ | refine Ext.drew ?_ | refine Ext.trans ?_ (by assumption)))) hl⟩
                clear hK K))
  refine wpX_nil (fun wz hwz => ?_)
  go_wp2
  go_ret
  exact ⟨ret_bool (by simp [wthP]), (by repeat (first | exact Ext.refl _ | assumption | refine Ext.alloc ?_ _ | refine Ext.drew ?_ | refine Ext.trans ?_ (by assumption)))⟩

set_option maxRecDepth 100000 in
set_option maxHeartbeats 4000000 in
theorem wth_impl (w : World) (n : Nat) (a : Option Addr) (c : Nat) (vs : List Vt) (k : Nat) (hR : RdV w a vs) (hS : SmallV n vs) (n2 : n ≤ 5) :
    Calls Try.prog 163 #[.agg #[.int .i64 n, .slice a vs.length c], .int .i64 k] w fun e w' => ∃ v, e = .returned v ∧ WrI w' w.heap.size v (rowL n (wthV vs k)) ∧ Ext w w' := by
  have HS := hide hS
  clear hS
  obtain ⟨i0, hi, hz0, hz1, hz2⟩ := info_parts info_int
  have hmk := fun W => run_make_rowN (P := Try.prog) 29 3 i0 _ Try.underlying29 hi hz0 .i64 .i64 n n (Nat.le_refl _) (by rw [hz2]; omega) (by omega) W
  rw [hz1, Nat.mul_one] at hmk
  have q0 := new0 w (.int .i64 n) [.slice a vs.length c] 47
  have q1 := new1 w (.int .i64 n) (.slice a vs.length c) [] 47
  have q0 := Ext.keep (Ext.new _ (.cells #[.int .i64 (k : Int)] 3)) q0
  have q1 := Ext.keep (Ext.new _ (.cells #[.int .i64 (k : Int)] 3)) q1
  have qk := new0 (w.alloc (.cells #[.int .i64 n, .slice a vs.length c] 47)) (.int .i64 (k : Int)) [] 3
  have hs1 : (w.alloc (.cells #[.int .i64 n, .slice a vs.length c] 47)).heap.size = w.heap.size + 1 := by simp
  rw [hs1] at qk
  go_enter Try.func163, Try.ntmps163
  go_wp2_with fail
  clear hmk
  have h20 : Ext w ((w.alloc (.cells #[.int .i64 n, .slice a vs.length c] 47)).alloc (.cells #[.int .i64 (k : Int)] 3)) := (by repeat (first | exact Ext.refl _ | assumption | refine Ext.alloc ?_ _ | refine Ext.drew ?_ | refine Ext.trans ?_ (by assumption)))
  have hs2 : ((w.alloc (.cells #[.int .i64 n, .slice a vs.length c] 47)).alloc (.cells #[.int .i64 (k : Int)] 3)).heap.size = w.heap.size + 2 := by simp
  clear hs1
  generalize hW : (w.alloc (.cells #[.int .i64 n, .slice a vs.length c] 47)).alloc (.cells #[.int .i64 (k : Int)] 3) = wb at q0 q1 qk h20 hs2 ⊢
  clear hW
  have hB := BlkF.new wb (madeCells #[.int .i64 0] n) 3
  rw [size_madeCells] at hB
  have hE := Ext.new wb (.cells (madeCells #[.int .i64 0] n) 3)
  rw [hs2] at hB
  have hsz : w.heap.size + 2 ≤ wb.heap.size := by omega
  have hsz2 : wb.heap.size ≤ w.heap.size + 2 := by omega
  clear hs2
  have hR0 := hR.ext h20
  have hB := hB.congr (f' := fun o => .int .i64 (if o < 0 then wthV vs k o else 0)) (fun o ho => by rw [if_neg (by omega)]; exact made_int n o ho)
  generalize wb.alloc (.cells (madeCells #[.int .i64 0] n) 3) = W1 at hB hE ⊢
  go_loopw [6, 12] (fun _ i wr => ∃ j : Nat, j ≤ n ∧ i = .int .i64 j ∧ BlkF wr (w.heap.size + 2) n (fun o => .int .i64 (if o < j then wthV vs k o else 0)) ∧ Ext wb wr) (fun _ i _ => n - (intOf i).toNat)
  case atStart => exact ⟨0, Nat.zero_le _, rfl, hB, hE⟩
  case round =>
    clear hB hE
    obtain ⟨i, hi, rfl, hB, hwr⟩ := hrel
    have r0 := hwr.keep q0
    have r1 := hwr.keep q1
    have rk := hwr.keep qk
    by_cases hlt : i < n
    · have d0 := hB.cell i hlt
      rw [if_neg (by omega)] at d0
      have z0 := hB.fr i
      have hRr := hR0.ext hwr
      have HV := hide (fun (w' : World) (hw' : Ext (wr.alloc (.cells #[.int .i64 (i : Int)] 3)) w') =>
        votersV 203 #[] #[.pointer (some ⟨wr.heap.size, 0, none⟩), .pointer (some ⟨w.heap.size + 1, 0, none⟩)] (wthP i k) w' n a c vs (hRr.ext ((Ext.new wr _).trans hw')) HS.out Try.call203
          (fun x a' c' w2 hx hw2 hRx _ => wthOne w2 wr.heap.size (w.heap.size + 1) i k a' c' x.1 (hw2.keep (hw'.keep (new0 wr _ _ _))) (hw2.keep (((Ext.new wr _).trans hw').keep rk)) hRx (by have := (rk_len (HS.out.2 x hx).1).2; omega)))
      have HB := hide hB
      clear hB
      go_wp2
      have e0 := new0 wr (.int .i64 (i : Int)) [] 3
      refine wp_region_X (by kernel_rfl) (by kernel_rfl) ?_
      repeat' (refine wpX_stepQ (fun K hK => ?_)
               go_simp
               try (rw [if_neg (by intro h; simp [undef] at h)])
               try split
               all_goals
                 first
                 | (refine hK _ ?_
                    clear hK K)
                 | (apply Exists.intro
                    refine ⟨fun wq hwq => ?_, hK _ ?_⟩
                    · have hcq := hwq.cellS
                      go_simp
                      first
                      | exact ⟨Ext.refl _, rfl⟩
                      | exact ⟨Ext.refl _, HV.out _ (by repeat (first | exact Ext.refl _ | assumption | refine Ext.alloc ?_ _ | refine Ext.drew ?_ | refine Ext.trans ?_ (by assumption)))⟩
                    clear hK K))
      refine wpX_stepL rfl (by kernel_rfl) (by kernel_rfl) (by kernel_rfl) (fun K hK wz hwz => ?_)
      have hcz := hwz.cellS
      have hfz := hwz.frozenS
      go_simp
      refine hK _ _ ?_
      clear hK K
      go_wp2
      refine ⟨⟨i + 1, by omega, by go_num, ((HB.out.ext (show Ext wr wz from (by repeat (first | exact Ext.refl _ | assumption | refine Ext.alloc ?_ _ | refine Ext.drew ?_ | refine Ext.trans ?_ (by assumption))))).set i hlt _).congr (fun o ho => ?_), Ext.setCell (show Ext wb wz from (by repeat (first | exact Ext.refl _ | assumption | refine Ext.alloc ?_ _ | refine Ext.drew ?_ | refine Ext.trans ?_ (by assumption)))) hsz2 _⟩, by simp [intOf]; omega⟩
      by_cases e : o = i
      · subst e; rw [if_pos rfl, if_pos (by omega)]; rfl
      · rw [if_neg e]
        by_cases e2 : o < i
        · rw [if_pos e2, if_pos (by omega)]
        · rw [if_neg e2, if_neg (by omega)]
    · have hin : i = n := by omega
      go_wp2
      go_ret
      refine ⟨_, rfl, hB.wrI (rowL_len _ _) (fun j x hx => ?_) (by omega) (Nat.le_refl _), h20.trans hwr⟩
      obtain ⟨hj, rfl⟩ := rowL_val hx
      rw [hin, if_pos hj]

/-- The last of those with the least worth, -1 if there is none. -/
def pickV (f : Int → Int) (xs : List Int) : Int := xs.foldl (fun cur x => if cur < 0 ∨ f x ≤ f cur then x else cur) (-1)
set_option maxRecDepth 100000 in
theorem pickV_nil (f : Int → Int) : pickV f [] = -1 := rfl
set_option maxRecDepth 100000 in
theorem pickV_snoc (f : Int → Int) (xs : List Int) (x : Int) : pickV f (xs ++ [x]) = if pickV f xs < 0 ∨ f x ≤ f (pickV f xs) then x else pickV f xs := by
  unfold pickV; rw [List.foldl_append]; rfl
set_option maxRecDepth 100000 in
theorem foldl_pick (f : Int → Int) : ∀ (xs : List Int) (cur : Int), xs.foldl (fun cur x => if cur < 0 ∨ f x ≤ f cur then x else cur) cur = cur ∨ xs.foldl (fun cur x => if cur < 0 ∨ f x ≤ f cur then x else cur) cur ∈ xs
  | [], cur => .inl rfl
  | x :: xs, cur => by
    rw [List.foldl_cons]
    rcases foldl_pick f xs (if cur < 0 ∨ f x ≤ f cur then x else cur) with h | h
    · rw [h]
      split
      · exact .inr (by simp)
      · exact .inl rfl
    · exact .inr (List.mem_cons_of_mem _ h)
set_option maxRecDepth 100000 in
theorem pickV_mem {f : Int → Int} {xs : List Int} (h : xs ≠ []) : pickV f xs ∈ xs := by
  cases xs with
  | nil => exact absurd rfl h
  | cons x xs =>
    unfold pickV
    rw [List.foldl_cons, if_pos (.inl (by decide))]
    rcases foldl_pick f xs x with h | h
    · rw [h]; simp
    · exact List.mem_cons_of_mem _ h
set_option maxRecDepth 100000 in
theorem erase_filter : ∀ {xs : List Int} {i : Nat} {x : Int}, xs.Nodup → xs[i]? = some x → xs.eraseIdx i = xs.filter (fun y => !(y == x))
  | [], _, _, _, h => by simp at h
  | y :: ys, 0, x, hd, h => by
    simp at h
    subst h
    rw [List.nodup_cons] at hd
    have : ys.filter (fun z => !(z == y)) = ys := List.filter_eq_self.2 (fun z hz => by
      simp only [Bool.not_eq_true', beq_eq_false_iff_ne]
      rintro rfl
      exact hd.1 hz)
    simp [this]
  | y :: ys, i + 1, x, hd, h => by
    rw [List.nodup_cons] at hd
    simp only [List.getElem?_cons_succ] at h
    have hne : y ≠ x := by rintro rfl; exact hd.1 (List.mem_of_getElem? h)
    have hb : (y == x) = false := by simpa using hne
    rw [List.eraseIdx_cons_succ, erase_filter hd.2 h, List.filter_cons, hb]
    rfl
/-- Candidates that are not in a list. -/
def notIn (out : List Int) (i : Nat) : Bool := !hasI out (i : Int)
def leftL (n : Nat) (out : List Int) : List Int := upL n (notIn out)
set_option maxRecDepth 100000 in
theorem hasI_iff {xs : List Int} {x : Int} : hasI xs x = true ↔ x ∈ xs := by unfold hasI; simp
set_option maxRecDepth 100000 in
theorem upL_mem {n : Nat} {q : Nat → Bool} {x : Int} : x ∈ upL n q ↔ ∃ i : Nat, i < n ∧ q i = true ∧ x = i := by
  unfold upL
  simp only [List.mem_map, List.mem_filter, List.mem_range]
  constructor
  · rintro ⟨i, ⟨h1, h2⟩, rfl⟩; exact ⟨i, h1, h2, rfl⟩
  · rintro ⟨i, h1, h2, rfl⟩; exact ⟨i, ⟨h1, h2⟩, rfl⟩
set_option maxRecDepth 100000 in
theorem upL_nodup (n : Nat) (q : Nat → Bool) : (upL n q).Nodup := by
  unfold upL
  refine List.Pairwise.map _ (fun a b h => ?_) (List.Pairwise.filter _ List.nodup_range)
  intro e
  have e' : (a : Int) = (b : Int) := e
  exact h (by omega)
set_option maxRecDepth 100000 in
theorem leftL_mem {n : Nat} {out : List Int} {x : Int} : x ∈ leftL n out ↔ ∃ i : Nat, i < n ∧ (i : Int) ∉ out ∧ x = i := by
  unfold leftL
  rw [upL_mem]
  constructor
  · rintro ⟨i, h1, h2, h3⟩
    refine ⟨i, h1, fun h => ?_, h3⟩
    rw [notIn, hasI_iff.2 h] at h2; cases h2
  · rintro ⟨i, h1, h2, h3⟩
    refine ⟨i, h1, ?_, h3⟩
    unfold notIn
    cases h : hasI out (i : Int)
    · rfl
    · exact absurd (hasI_iff.1 h) h2
set_option maxRecDepth 100000 in
theorem leftL_pos {n : Nat} {out : List Int} {x : Int} (h : x ∈ leftL n out) : 0 ≤ x := by obtain ⟨i, _, _, rfl⟩ := leftL_mem.1 h; omega
set_option maxRecDepth 100000 in
/-- One more has gone. -/
theorem leftL_erase {n k : Nat} {out : List Int} {x : Int} (h : (leftL n out)[k]? = some x) : (leftL n out).eraseIdx k = leftL n (out ++ [x]) := by
  rw [erase_filter (show (leftL n out).Nodup from upL_nodup n (notIn out)) h]
  unfold leftL upL
  rw [List.filter_map, List.filter_filter]
  congr 1
  refine List.filter_congr (fun i _ => ?_)
  rw [Bool.eq_iff_iff]
  have e : hasI (out ++ [x]) (i : Int) = true ↔ hasI out (i : Int) = true ∨ (i : Int) = x := by
    rw [hasI_iff, hasI_iff]; simp
  unfold notIn
  simp only [Function.comp, Bool.and_eq_true, Bool.not_eq_true', beq_eq_false_iff_ne]
  constructor
  · rintro ⟨h1, h2⟩
    cases h3 : hasI (out ++ [x]) (i : Int)
    · rfl
    · rcases e.1 h3 with h4 | h4
      · rw [h2] at h4; cases h4
      · exact absurd h4 h1
  · intro h3
    refine ⟨fun h4 => ?_, ?_⟩
    · rw [e.2 (.inr h4)] at h3; cases h3
    · cases h5 : hasI out (i : Int)
      · rfl
      · rw [e.2 (.inl h5)] at h3; cases h3
set_option maxRecDepth 100000 in
theorem leftL_len {n : Nat} {out : List Int} : (leftL n out).length ≤ n := upL_len _ _

/-- The first k that are eliminated, by the worth W. -/
def elimL (n : Nat) (W : List Int → Int → Int) : Nat → List Int
  | 0 => []
  | k + 1 => elimL n W k ++ [pickV (W (leftL n (elimL n W k))) (leftL n (elimL n W k))]
set_option maxRecDepth 100000 in
theorem elimL_len (n : Nat) (W : List Int → Int → Int) : ∀ k, (elimL n W k).length = k
  | 0 => rfl
  | k + 1 => by rw [elimL, List.length_append, elimL_len n W k]; rfl
set_option maxRecDepth 100000 in
theorem leftL_nil (n : Nat) : leftL n [] = upL n (fun _ => true) := upL_congr (fun i _ => by simp [notIn, hasI])
set_option maxRecDepth 100000 in
theorem upL_true_len : ∀ n, (upL n (fun _ => true)).length = n
  | 0 => rfl
  | n + 1 => by rw [upL_succ, List.length_append, upL_true_len n]; rfl
set_option maxRecDepth 100000 in
theorem leftL_elim {n : Nat} (W : List Int → Int → Int) : ∀ k, k ≤ n → (leftL n (elimL n W k)).length = n - k
  | 0, _ => by rw [elimL, leftL_nil, upL_true_len]; rfl
  | k + 1, hk => by
    have ih := leftL_elim (n := n) W k (by omega)
    have hne : leftL n (elimL n W k) ≠ [] := fun e => by rw [e] at ih; simp at ih; omega
    have hm := pickV_mem (f := W (leftL n (elimL n W k))) hne
    obtain ⟨i, hi⟩ := List.mem_iff_getElem?.1 hm
    have hlt := lt_of_at hi
    rw [elimL, ← leftL_erase hi, List.length_eraseIdx, if_pos hlt, ih]
    omega

end Go.Proofs.Ythiojkpoeejkaaa
