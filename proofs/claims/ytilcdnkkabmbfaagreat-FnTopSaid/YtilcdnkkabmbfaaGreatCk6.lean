/- How many rank a candidate among the first k. Eliminations, as lists: who goes next, and in which order all go. Pairs that are kept as long as they make no cycle, and the order that they give (plain law). Sorting by insertion, the greatest key first: from the left and from the right (plain law). All orders of a list: the two ways of naming them answer alike (plain law). Pairs of a list in which something holds for the later and the earlier one, counted in two ways (plain law). -/
import Derived.Test.YtilcdnkkabmbfaaGreatCk5
import Derived.Test.YtilcdnkkabmbfaaGreatCk2
namespace Go.Proofs.YtilcdnkkabmbfaaGreat
open Go.RowKit

set_option maxRecDepth 100000 in
theorem sumV_nil (p : List Int → Bool) : sumV p [] = 0 := by simp [sumV]
set_option maxRecDepth 100000 in
theorem sumV_cons (p : List Int → Bool) (x : Vt) (vs : List Vt) : sumV p (x :: vs) = (if p x.1 then x.2 else 0) + sumV p vs := by
  unfold sumV
  cases h : p x.1 <;> simp [h]
set_option maxRecDepth 100000 in
theorem sumV_none : ∀ vs : List Vt, sumV (fun _ => false) vs = 0
  | [] => rfl
  | x :: vs => by rw [sumV_cons, sumV_none vs]; simp
set_option maxRecDepth 100000 in
theorem sumV_all : ∀ vs : List Vt, sumV (fun _ => true) vs = (vs.map Prod.snd).sum
  | [] => rfl
  | x :: vs => by rw [sumV_cons, sumV_all vs]; simp
set_option maxRecDepth 100000 in
theorem sumV_congr {p q : List Int → Bool} : ∀ {vs : List Vt}, (∀ x ∈ vs, p x.1 = q x.1) → sumV p vs = sumV q vs
  | [], _ => rfl
  | x :: vs, h => by rw [sumV_cons, sumV_cons, h x (by simp), sumV_congr (fun y hy => h y (by simp [hy]))]
set_option maxRecDepth 100000 in
theorem sumV_add {p q r : List Int → Bool} : ∀ {vs : List Vt}, (∀ x ∈ vs, r x.1 = (p x.1 || q x.1) ∧ (p x.1 && q x.1) = false) → sumV r vs = sumV p vs + sumV q vs
  | [], _ => by simp [sumV]
  | x :: vs, h => by
    obtain ⟨h1, h2⟩ := h x (by simp)
    rw [sumV_cons, sumV_cons, sumV_cons, h1, sumV_add (fun y hy => h y (by simp [hy]))]
    cases hp : p x.1 <;> cases hq : q x.1 <;> simp [hp, hq] at h2 ⊢ <;> omega
set_option maxRecDepth 100000 in
theorem SmallV.tail {sz : Int} {x : Vt} {vs : List Vt} (h : SmallV sz (x :: vs)) : SmallV sz vs := ⟨by have := h.1; simp at this; omega, fun y hy => h.2 y (by simp [hy])⟩

def wthP (a k : Nat) (r : List Int) : Bool := decide (placeI r a < (k : Int))
def wthV (vs : List Vt) (k a : Nat) : Int := sumV (wthP a k) vs
def sumN (f : Nat → Int) : Nat → Int
  | 0 => 0
  | k + 1 => sumN f k + f k
set_option maxRecDepth 100000 in
theorem wth_sum {n a : Nat} {vs : List Vt} (hS : SmallV n vs) (ha : a < n) : ∀ k, sumN (plcV vs a) k = wthV vs k a
  | 0 => by
    unfold sumN wthV
    rw [sumV_congr (q := fun _ => false) (fun x hx => by
      obtain ⟨p, _, hp, _⟩ := place_at (hS.2 x hx).1 ha
      simp [wthP, hp])]
    exact (sumV_none vs).symm
  | k + 1 => by
    unfold sumN
    rw [wth_sum hS ha k]
    unfold wthV plcV
    refine (sumV_add fun x hx => ?_).symm
    obtain ⟨p, _, hp, h1, h2⟩ := place_at (hS.2 x hx).1 ha
    have e : plcP a k x.1 = decide (p = k) := by
      by_cases e : p = k
      · subst e; simp [plcP, h1]
      · simp only [plcP, e, decide_false, beq_eq_false_iff_ne]
        exact fun h3 => e (h2 k h3).symm
    rw [e]
    unfold wthP
    rw [hp]
    by_cases h3 : p = k
    · have h4 : (p : Int) < ((k + 1 : Nat) : Int) := by omega
      have h5 : ¬ (p : Int) < (k : Int) := by omega
      rw [decide_eq_true h4, decide_eq_false h5, decide_eq_true h3]; simp
    · by_cases h4 : (p : Int) < (k : Int)
      · have h5 : (p : Int) < ((k + 1 : Nat) : Int) := by omega
        rw [decide_eq_true h4, decide_eq_true h5, decide_eq_false h3]; simp
      · have h5 : ¬ (p : Int) < ((k + 1 : Nat) : Int) := by omega
        rw [decide_eq_false h4, decide_eq_false h5, decide_eq_false h3]; simp
set_option maxRecDepth 100000 in
theorem sumN_bd {f : Nat → Int} {M : Int} (h : ∀ j, 0 ≤ f j ∧ f j ≤ M) : ∀ k, 0 ≤ sumN f k ∧ sumN f k ≤ M * k
  | 0 => by simp [sumN]
  | k + 1 => by
    have h1 := sumN_bd h k
    have h2 := h k
    unfold sumN
    have : M * ((k + 1 : Nat) : Int) = M * k + M := by rw [Int.natCast_succ, Int.mul_add]; simp
    omega
set_option maxRecDepth 100000 in
theorem wthV_bd {n : Int} {vs : List Vt} (hS : SmallV n vs) (k a : Nat) : 0 ≤ wthV vs k a ∧ wthV vs k a ≤ 24000 := sumV_bd' hS

set_option maxRecDepth 100000 in
/-- A row of a matrix of the call's own. -/
theorem WrSS.at_ {w : World} {B : Nat} {v : Value} {xss : List (List Int)} (h : WrSS w B v xss) {k : Nat} {xs : List Int} (hx : xss[k]? = some xs) :
    ∃ g c a' c', v = .slice (some ⟨g, 0, none⟩) xss.length c ∧ w.cell? ⟨g, k, none⟩ = some (.slice a' xs.length c') ∧ xs.length ≤ c' ∧ RdI w a' xs := by
  obtain ⟨a, c, hv, hc, ho⟩ := h
  obtain ⟨g, us, rfl, hM⟩ := ho (ne_of_at hx)
  have h1 := hM.row k (lt_of_at hx)
  simp only [List.getD, hx, Option.getD_some] at h1
  obtain ⟨a', c', hu, hc', _, hR, _⟩ := h1.val
  exact ⟨g, c, a', c', hv, by rw [hM.outer.cell k (lt_of_at hx), hu], hc', hR⟩

set_option maxRecDepth 100000 in
set_option maxHeartbeats 1000000 in
theorem wthOne (w : World) (g1 g2 i k : Nat) (a : Option Addr) (c : Nat) (xs : List Int) (h1 : w.cell? ⟨g1, 0, none⟩ = some (.int .i64 i)) (h2 : w.cell? ⟨g2, 0, none⟩ = some (.int .i64 k)) (hR : RdI w a xs) (hl : xs.length ≤ 2000000) :
    Calls Tryz.prog 150 #[.slice a xs.length c, .pointer (some ⟨g1, 0, none⟩), .pointer (some ⟨g2, 0, none⟩)] w fun e w' => e = .returned (.bool (wthP i k xs)) ∧ Ext w w' := by
  go_enter Tryz.func150, Tryz.ntmps150
  go_wp2
  refine wp_region_X (by kernel_rfl) (by kernel_rfl) ?_
  repeat' (refine wpX_stepQ (fun K hK => ?_)
           go_simp
           try (rw [if_neg (by intro h; simp [undef] at h)])
           try split
           all_goals
             first
             | (refine hK _ ?_
                clear hK K)
             | (apply Exists.intro
                refine ⟨fun wq hwq => ?_, hK _ ?_⟩
                · have hcq := hwq.cellS
                  go_simp
                  first
                  | exact ⟨Ext.refl _, rfl⟩
                  | exact ⟨Ext.refl _, place_impl _ _ _ _ _ (hR.ext (by repeat (first | exact Ext.refl _ | assumption | refine Ext.alloc ?_ _ | refine Ext.drew ?_ | refine Ext.trans ?_ (by assumption)))) hl⟩
                clear hK K))
  refine wpX_nil (fun wz hwz => ?_)
  go_wp2
  go_ret
  exact ⟨ret_bool (by simp [wthP]), (by repeat (first | exact Ext.refl _ | assumption | refine Ext.alloc ?_ _ | refine Ext.drew ?_ | refine Ext.trans ?_ (by assumption)))⟩

set_option maxRecDepth 100000 in
set_option maxHeartbeats 4000000 in
theorem wth_impl (w : World) (n : Nat) (a : Option Addr) (c : Nat) (vs : List Vt) (k : Nat) (hR : RdV w a vs) (hS : SmallV n vs) (n2 : n ≤ 5) :
    Calls Tryz.prog 101 #[.agg #[.int .i64 n, .slice a vs.length c], .int .i64 k] w fun e w' => ∃ v, e = .returned v ∧ WrI w' w.heap.size v (rowL n (wthV vs k)) ∧ Ext w w' := by
  have HS := hide hS
  clear hS
  obtain ⟨i0, hi, hz0, hz1, hz2⟩ := info_parts info_int
  have hmk := fun W => run_make_rowN (P := Tryz.prog) 36 3 i0 _ Tryz.underlying36 hi hz0 .i64 .i64 n n (Nat.le_refl _) (by rw [hz2]; omega) (by omega) W
  rw [hz1, Nat.mul_one] at hmk
  have q0 := new0 w (.int .i64 n) [.slice a vs.length c] 29
  have q1 := new1 w (.int .i64 n) (.slice a vs.length c) [] 29
  have q0 := Ext.keep (Ext.new _ (.cells #[.int .i64 (k : Int)] 3)) q0
  have q1 := Ext.keep (Ext.new _ (.cells #[.int .i64 (k : Int)] 3)) q1
  have qk := new0 (w.alloc (.cells #[.int .i64 n, .slice a vs.length c] 29)) (.int .i64 (k : Int)) [] 3
  have hs1 : (w.alloc (.cells #[.int .i64 n, .slice a vs.length c] 29)).heap.size = w.heap.size + 1 := by simp
  rw [hs1] at qk
  go_enter Tryz.func101, Tryz.ntmps101
  go_wp2_with fail
  clear hmk
  have h20 : Ext w ((w.alloc (.cells #[.int .i64 n, .slice a vs.length c] 29)).alloc (.cells #[.int .i64 (k : Int)] 3)) := (by repeat (first | exact Ext.refl _ | assumption | refine Ext.alloc ?_ _ | refine Ext.drew ?_ | refine Ext.trans ?_ (by assumption)))
  have hs2 : ((w.alloc (.cells #[.int .i64 n, .slice a vs.length c] 29)).alloc (.cells #[.int .i64 (k : Int)] 3)).heap.size = w.heap.size + 2 := by simp
  clear hs1
  generalize hW : (w.alloc (.cells #[.int .i64 n, .slice a vs.length c] 29)).alloc (.cells #[.int .i64 (k : Int)] 3) = wb at q0 q1 qk h20 hs2 ⊢
  clear hW
  have hB := BlkF.new wb (madeCells #[.int .i64 0] n) 3
  rw [size_madeCells] at hB
  have hE := Ext.new wb (.cells (madeCells #[.int .i64 0] n) 3)
  rw [hs2] at hB
  have hsz : w.heap.size + 2 ≤ wb.heap.size := by omega
  have hsz2 : wb.heap.size ≤ w.heap.size + 2 := by omega
  clear hs2
  have hR0 := hR.ext h20
  have hB := hB.congr (f' := fun o => .int .i64 (if o < 0 then wthV vs k o else 0)) (fun o ho => by rw [if_neg (by omega)]; exact made_int n o ho)
  generalize wb.alloc (.cells (madeCells #[.int .i64 0] n) 3) = W1 at hB hE ⊢
  go_loopw [6, 12] (fun _ i wr => ∃ j : Nat, j ≤ n ∧ i = .int .i64 j ∧ BlkF wr (w.heap.size + 2) n (fun o => .int .i64 (if o < j then wthV vs k o else 0)) ∧ Ext wb wr) (fun _ i _ => n - (intOf i).toNat)
  case atStart => exact ⟨0, Nat.zero_le _, rfl, hB, hE⟩
  case round =>
    clear hB hE
    obtain ⟨i, hi, rfl, hB, hwr⟩ := hrel
    have r0 := hwr.keep q0
    have r1 := hwr.keep q1
    have rk := hwr.keep qk
    by_cases hlt : i < n
    · have d0 := hB.cell i hlt
      rw [if_neg (by omega)] at d0
      have z0 := hB.fr i
      have hRr := hR0.ext hwr
      have HV := hide (fun (w' : World) (hw' : Ext (wr.alloc (.cells #[.int .i64 (i : Int)] 3)) w') =>
        votersV 150 #[] #[.pointer (some ⟨wr.heap.size, 0, none⟩), .pointer (some ⟨w.heap.size + 1, 0, none⟩)] (wthP i k) w' n a c vs (hRr.ext ((Ext.new wr _).trans hw')) HS.out Tryz.call150
          (fun x a' c' w2 hx hw2 hRx _ => wthOne w2 wr.heap.size (w.heap.size + 1) i k a' c' x.1 (hw2.keep (hw'.keep (new0 wr _ _ _))) (hw2.keep (((Ext.new wr _).trans hw').keep rk)) hRx (by have := (rk_len (HS.out.2 x hx).1).2; omega)))
      have HB := hide hB
      clear hB
      go_wp2
      have e0 := new0 wr (.int .i64 (i : Int)) [] 3
      refine wp_region_X (by kernel_rfl) (by kernel_rfl) ?_
      repeat' (refine wpX_stepQ (fun K hK => ?_)
               go_simp
               try (rw [if_neg (by intro h; simp [undef] at h)])
               try split
               all_goals
                 first
                 | (refine hK _ ?_
                    clear hK K)
                 | (apply Exists.intro
                    refine ⟨fun wq hwq => ?_, hK _ ?_⟩
                    · have hcq := hwq.cellS
                      go_simp
                      first
                      | exact ⟨Ext.refl _, rfl⟩
                      | exact ⟨Ext.refl _, HV.out _ (by repeat (first | exact Ext.refl _ | assumption | refine Ext.alloc ?_ _ | refine Ext.drew ?_ | refine Ext.trans ?_ (by assumption)))⟩
                    clear hK K))
      refine wpX_stepL rfl (by kernel_rfl) (by kernel_rfl) (by kernel_rfl) (fun K hK wz hwz => ?_)
      have hcz := hwz.cellS
      have hfz := hwz.frozenS
      go_simp
      refine hK _ _ ?_
      clear hK K
      go_wp2
      refine ⟨⟨i + 1, by omega, by go_num, ((HB.out.ext (show Ext wr wz from (by repeat (first | exact Ext.refl _ | assumption | refine Ext.alloc ?_ _ | refine Ext.drew ?_ | refine Ext.trans ?_ (by assumption))))).set i hlt _).congr (fun o ho => ?_), Ext.setCell (show Ext wb wz from (by repeat (first | exact Ext.refl _ | assumption | refine Ext.alloc ?_ _ | refine Ext.drew ?_ | refine Ext.trans ?_ (by assumption)))) hsz2 _⟩, by simp [intOf]; omega⟩
      by_cases e : o = i
      · subst e; rw [if_pos rfl, if_pos (by omega)]; rfl
      · rw [if_neg e]
        by_cases e2 : o < i
        · rw [if_pos e2, if_pos (by omega)]
        · rw [if_neg e2, if_neg (by omega)]
    · have hin : i = n := by omega
      go_wp2
      go_ret
      refine ⟨_, rfl, hB.wrI (rowL_len _ _) (fun j x hx => ?_) (by omega) (Nat.le_refl _), h20.trans hwr⟩
      obtain ⟨hj, rfl⟩ := rowL_val hx
      rw [hin, if_pos hj]

/-- The last of those with the least worth, -1 if there is none. -/
def pickV (f : Int → Int) (xs : List Int) : Int := xs.foldl (fun cur x => if cur < 0 ∨ f x ≤ f cur then x else cur) (-1)
set_option maxRecDepth 100000 in
theorem pickV_nil (f : Int → Int) : pickV f [] = -1 := rfl
set_option maxRecDepth 100000 in
theorem pickV_snoc (f : Int → Int) (xs : List Int) (x : Int) : pickV f (xs ++ [x]) = if pickV f xs < 0 ∨ f x ≤ f (pickV f xs) then x else pickV f xs := by
  unfold pickV; rw [List.foldl_append]; rfl
set_option maxRecDepth 100000 in
theorem foldl_pick (f : Int → Int) : ∀ (xs : List Int) (cur : Int), xs.foldl (fun cur x => if cur < 0 ∨ f x ≤ f cur then x else cur) cur = cur ∨ xs.foldl (fun cur x => if cur < 0 ∨ f x ≤ f cur then x else cur) cur ∈ xs
  | [], cur => .inl rfl
  | x :: xs, cur => by
    rw [List.foldl_cons]
    rcases foldl_pick f xs (if cur < 0 ∨ f x ≤ f cur then x else cur) with h | h
    · rw [h]
      split
      · exact .inr (by simp)
      · exact .inl rfl
    · exact .inr (List.mem_cons_of_mem _ h)
set_option maxRecDepth 100000 in
theorem pickV_mem {f : Int → Int} {xs : List Int} (h : xs ≠ []) : pickV f xs ∈ xs := by
  cases xs with
  | nil => exact absurd rfl h
  | cons x xs =>
    unfold pickV
    rw [List.foldl_cons, if_pos (.inl (by decide))]
    rcases foldl_pick f xs x with h | h
    · rw [h]; simp
    · exact List.mem_cons_of_mem _ h
set_option maxRecDepth 100000 in
theorem erase_filter : ∀ {xs : List Int} {i : Nat} {x : Int}, xs.Nodup → xs[i]? = some x → xs.eraseIdx i = xs.filter (fun y => !(y == x))
  | [], _, _, _, h => by simp at h
  | y :: ys, 0, x, hd, h => by
    simp at h
    subst h
    rw [List.nodup_cons] at hd
    have : ys.filter (fun z => !(z == y)) = ys := List.filter_eq_self.2 (fun z hz => by
      simp only [Bool.not_eq_true', beq_eq_false_iff_ne]
      rintro rfl
      exact hd.1 hz)
    simp [this]
  | y :: ys, i + 1, x, hd, h => by
    rw [List.nodup_cons] at hd
    simp only [List.getElem?_cons_succ] at h
    have hne : y ≠ x := by rintro rfl; exact hd.1 (List.mem_of_getElem? h)
    have hb : (y == x) = false := by simpa using hne
    rw [List.eraseIdx_cons_succ, erase_filter hd.2 h, List.filter_cons, hb]
    rfl
/-- Candidates that are not in a list. -/
def notIn (out : List Int) (i : Nat) : Bool := !hasI out (i : Int)
def leftL (n : Nat) (out : List Int) : List Int := upL n (notIn out)
set_option maxRecDepth 100000 in
theorem hasI_iff {xs : List Int} {x : Int} : hasI xs x = true ↔ x ∈ xs := by unfold hasI; simp
set_option maxRecDepth 100000 in
theorem upL_mem {n : Nat} {q : Nat → Bool} {x : Int} : x ∈ upL n q ↔ ∃ i : Nat, i < n ∧ q i = true ∧ x = i := by
  unfold upL
  simp only [List.mem_map, List.mem_filter, List.mem_range]
  constructor
  · rintro ⟨i, ⟨h1, h2⟩, rfl⟩; exact ⟨i, h1, h2, rfl⟩
  · rintro ⟨i, h1, h2, rfl⟩; exact ⟨i, ⟨h1, h2⟩, rfl⟩
set_option maxRecDepth 100000 in
theorem upL_nodup (n : Nat) (q : Nat → Bool) : (upL n q).Nodup := by
  unfold upL
  refine List.Pairwise.map _ (fun a b h => ?_) (List.Pairwise.filter _ List.nodup_range)
  intro e
  have e' : (a : Int) = (b : Int) := e
  exact h (by omega)
set_option maxRecDepth 100000 in
theorem leftL_mem {n : Nat} {out : List Int} {x : Int} : x ∈ leftL n out ↔ ∃ i : Nat, i < n ∧ (i : Int) ∉ out ∧ x = i := by
  unfold leftL
  rw [upL_mem]
  constructor
  · rintro ⟨i, h1, h2, h3⟩
    refine ⟨i, h1, fun h => ?_, h3⟩
    rw [notIn, hasI_iff.2 h] at h2; cases h2
  · rintro ⟨i, h1, h2, h3⟩
    refine ⟨i, h1, ?_, h3⟩
    unfold notIn
    cases h : hasI out (i : Int)
    · rfl
    · exact absurd (hasI_iff.1 h) h2
set_option maxRecDepth 100000 in
theorem leftL_pos {n : Nat} {out : List Int} {x : Int} (h : x ∈ leftL n out) : 0 ≤ x := by obtain ⟨i, _, _, rfl⟩ := leftL_mem.1 h; omega
set_option maxRecDepth 100000 in
/-- One more has gone. -/
theorem leftL_erase {n k : Nat} {out : List Int} {x : Int} (h : (leftL n out)[k]? = some x) : (leftL n out).eraseIdx k = leftL n (out ++ [x]) := by
  rw [erase_filter (show (leftL n out).Nodup from upL_nodup n (notIn out)) h]
  unfold leftL upL
  rw [List.filter_map, List.filter_filter]
  congr 1
  refine List.filter_congr (fun i _ => ?_)
  rw [Bool.eq_iff_iff]
  have e : hasI (out ++ [x]) (i : Int) = true ↔ hasI out (i : Int) = true ∨ (i : Int) = x := by
    rw [hasI_iff, hasI_iff]; simp
  unfold notIn
  simp only [Function.comp, Bool.and_eq_true, Bool.not_eq_true', beq_eq_false_iff_ne]
  constructor
  · rintro ⟨h1, h2⟩
    cases h3 : hasI (out ++ [x]) (i : Int)
    · rfl
    · rcases e.1 h3 with h4 | h4
      · rw [h2] at h4; cases h4
      · exact absurd h4 h1
  · intro h3
    refine ⟨fun h4 => ?_, ?_⟩
    · rw [e.2 (.inr h4)] at h3; cases h3
    · cases h5 : hasI out (i : Int)
      · rfl
      · rw [e.2 (.inl h5)] at h3; cases h3
set_option maxRecDepth 100000 in
theorem leftL_len {n : Nat} {out : List Int} : (leftL n out).length ≤ n := upL_len _ _

/-- The first k that are eliminated, by the worth W. -/
def elimL (n : Nat) (W : List Int → Int → Int) : Nat → List Int
  | 0 => []
  | k + 1 => elimL n W k ++ [pickV (W (leftL n (elimL n W k))) (leftL n (elimL n W k))]
set_option maxRecDepth 100000 in
theorem elimL_len (n : Nat) (W : List Int → Int → Int) : ∀ k, (elimL n W k).length = k
  | 0 => rfl
  | k + 1 => by rw [elimL, List.length_append, elimL_len n W k]; rfl
set_option maxRecDepth 100000 in
theorem leftL_nil (n : Nat) : leftL n [] = upL n (fun _ => true) := upL_congr (fun i _ => by simp [notIn, hasI])
set_option maxRecDepth 100000 in
theorem upL_true_len : ∀ n, (upL n (fun _ => true)).length = n
  | 0 => rfl
  | n + 1 => by rw [upL_succ, List.length_append, upL_true_len n]; rfl
set_option maxRecDepth 100000 in
theorem leftL_elim {n : Nat} (W : List Int → Int → Int) : ∀ k, k ≤ n → (leftL n (elimL n W k)).length = n - k
  | 0, _ => by rw [elimL, leftL_nil, upL_true_len]; rfl
  | k + 1, hk => by
    have ih := leftL_elim (n := n) W k (by omega)
    have hne : leftL n (elimL n W k) ≠ [] := fun e => by rw [e] at ih; simp at ih; omega
    have hm := pickV_mem (f := W (leftL n (elimL n W k))) hne
    obtain ⟨i, hi⟩ := List.mem_iff_getElem?.1 hm
    have hlt := lt_of_at hi
    rw [elimL, ← leftL_erase hi, List.length_eraseIdx, if_pos hlt, ih]
    omega

def p0 (x : List Int) : Int := x.getD 0 0
def p1 (x : List Int) : Int := x.getD 1 0
/-- Kept pairs lead from a to b. -/
inductive ReachL (kept : List (List Int)) : Int → Int → Prop
  | refl (a : Int) : ReachL kept a a
  | step {b : Int} (x : List Int) (hx : x ∈ kept) (h : ReachL kept (p1 x) b) : ReachL kept (p0 x) b
set_option maxRecDepth 100000 in
theorem ReachL.snoc {kept : List (List Int)} {a b : Int} (h : ReachL kept a b) : ∀ {x : List Int}, x ∈ kept → p0 x = b → ReachL kept a (p1 x) := by
  induction h with
  | refl a => intro x hx e; exact e ▸ ReachL.step x hx (ReachL.refl _)
  | step y hy _ ih => intro x hx e; exact ReachL.step y hy (ih hx e)
set_option maxRecDepth 100000 in
theorem ReachL.mono {kept kept' : List (List Int)} (hk : ∀ x ∈ kept, x ∈ kept') {a b : Int} (h : ReachL kept a b) : ReachL kept' a b := by
  induction h with
  | refl a => exact ReachL.refl a
  | step y hy _ ih => exact ReachL.step y (hk y hy) ih
noncomputable def wayB (kept : List (List Int)) (a b : Int) : Bool := @decide (ReachL kept a b) (Classical.propDecidable _)
set_option maxRecDepth 100000 in
theorem wayB_iff {kept : List (List Int)} {a b : Int} : wayB kept a b = true ↔ ReachL kept a b := by
  unfold wayB; exact @decide_eq_true_iff _ (Classical.propDecidable _)
set_option maxRecDepth 100000 in
theorem wayB_no {kept : List (List Int)} {a b : Int} : wayB kept a b = false ↔ ¬ ReachL kept a b := by
  rw [← wayB_iff]; simp
set_option maxRecDepth 100000 in
theorem wayB_self (kept : List (List Int)) (a : Int) : wayB kept a a = true := wayB_iff.2 (ReachL.refl a)
set_option maxRecDepth 100000 in
/-- One step of the way, taken or not. -/
theorem wayB_step {kept : List (List Int)} {a b : Int} (hne : a ≠ b) : wayB kept a b = kept.any (fun x => decide (p0 x = a) && wayB kept (p1 x) b) := by
  rw [Bool.eq_iff_iff, wayB_iff, List.any_eq_true]
  constructor
  · intro h
    cases h with
    | refl => exact absurd rfl hne
    | step x hx h => exact ⟨x, hx, by simp [wayB_iff.2 h]⟩
  · rintro ⟨x, hx, h⟩
    simp only [Bool.and_eq_true, decide_eq_true_eq] at h
    have := ReachL.step x hx (wayB_iff.1 h.2)
    rw [h.1] at this
    exact this
set_option maxRecDepth 100000 in
/-- A set with a that no kept pair leaves holds all that can be reached. -/
theorem reach_in {kept : List (List Int)} {seen : List Int} (hc : ∀ x ∈ kept, p0 x ∈ seen → p1 x ∈ seen) {a b : Int} (h : ReachL kept a b) : a ∈ seen → b ∈ seen := by
  induction h with
  | refl a => exact id
  | step y hy _ ih => exact fun ha => ih (hc y hy ha)

/-- A number for each candidate that falls along each pair. -/
def Ranked (kept : List (List Int)) : Prop := ∃ r : Int → Nat, ∀ x ∈ kept, r (p1 x) < r (p0 x)
set_option maxRecDepth 100000 in
theorem Ranked.nil : Ranked [] := ⟨fun _ => 0, fun x h => by simp at h⟩
set_option maxRecDepth 100000 in
theorem Ranked.add {kept : List (List Int)} (h : Ranked kept) {x : List Int} (hx : wayB kept (p1 x) (p0 x) = false) : Ranked (kept ++ [x]) := by
  obtain ⟨r, hr⟩ := h
  refine ⟨fun y => r y + if wayB kept y (p0 x) = true then r (p1 x) + 1 else 0, fun y hy => ?_⟩
  rcases List.mem_append.1 hy with hy | hy
  · have h1 := hr y hy
    show r (p1 y) + (if wayB kept (p1 y) (p0 x) = true then r (p1 x) + 1 else 0) < r (p0 y) + (if wayB kept (p0 y) (p0 x) = true then r (p1 x) + 1 else 0)
    by_cases h2 : wayB kept (p1 y) (p0 x) = true
    · rw [if_pos h2, if_pos (wayB_iff.2 (ReachL.step y hy (wayB_iff.1 h2)))]; omega
    · rw [if_neg h2]; split <;> omega
  · simp at hy
    subst hy
    show r (p1 y) + (if wayB kept (p1 y) (p0 y) = true then r (p1 y) + 1 else 0) < r (p0 y) + (if wayB kept (p0 y) (p0 y) = true then r (p1 y) + 1 else 0)
    rw [if_neg (by rw [hx]; decide), if_pos (wayB_self _ _)]; omega

noncomputable def lockS (out : List (List Int)) (x : List Int) : List (List Int) := if wayB out (p1 x) (p0 x) = true then out else out ++ [x]
noncomputable def lockL (xss : List (List Int)) : List (List Int) := xss.foldl lockS []
set_option maxRecDepth 100000 in
theorem lockL_at {xss : List (List Int)} {k : Nat} {x : List Int} (h : xss[k]? = some x) : lockL (xss.take (k + 1)) = lockS (lockL (xss.take k)) x := by
  rw [take_at h]; simp [lockL]
set_option maxRecDepth 100000 in
theorem lockL_ranked (xss : List (List Int)) : ∀ k, k ≤ xss.length → Ranked (lockL (xss.take k))
  | 0, _ => Ranked.nil
  | k + 1, hk => by
    obtain ⟨x, hx⟩ := at_of_lt (xs := xss) (k := k) (by omega)
    have ih := lockL_ranked xss k (by omega)
    rw [lockL_at hx]
    unfold lockS
    by_cases h : wayB (lockL (xss.take k)) (p1 x) (p0 x) = true
    · rw [if_pos h]; exact ih
    · rw [if_neg h]; exact ih.add (by simpa using h)
set_option maxRecDepth 100000 in
theorem lockL_mem (xss : List (List Int)) : ∀ k, k ≤ xss.length → ∀ y ∈ lockL (xss.take k), y ∈ xss
  | 0, _, y, h => by simp [lockL] at h
  | k + 1, hk, y, h => by
    obtain ⟨x, hx⟩ := at_of_lt (xs := xss) (k := k) (by omega)
    have ih := lockL_mem xss k (by omega)
    rw [lockL_at hx] at h
    unfold lockS at h
    split at h
    · exact ih y h
    · rcases List.mem_append.1 h with h | h
      · exact ih y h
      · simp at h; subst h; exact List.mem_of_getElem? hx
set_option maxRecDepth 100000 in
theorem lockL_len (xss : List (List Int)) : ∀ k, k ≤ xss.length → (lockL (xss.take k)).length ≤ k
  | 0, _ => by simp [lockL]
  | k + 1, hk => by
    obtain ⟨x, hx⟩ := at_of_lt (xs := xss) (k := k) (by omega)
    have ih := lockL_len xss k (by omega)
    rw [lockL_at hx]
    unfold lockS
    split
    · omega
    · rw [List.length_append]; simp; omega

/-- No pair leads to a from one that is left. -/
def freeB (kept : List (List Int)) (left : List Int) (a : Int) : Bool := !kept.any (fun x => (p1 x == a) && hasI left (p0 x))
def nextQ (kept : List (List Int)) (n : Nat) (out : List Int) (i : Nat) : Bool := notIn out i && freeB kept (leftL n out) i
def nextV (kept : List (List Int)) (n : Nat) (out : List Int) : Int := match (List.range n).find? (nextQ kept n out) with | some i => (i : Int) | none => 0
def prL (kept : List (List Int)) (n : Nat) : Nat → List Int
  | 0 => []
  | k + 1 => prL kept n k ++ [nextV kept n (prL kept n k)]
set_option maxRecDepth 100000 in
theorem prL_len (kept : List (List Int)) (n : Nat) : ∀ k, (prL kept n k).length = k
  | 0 => rfl
  | k + 1 => by rw [prL, List.length_append, prL_len kept n k]; rfl
set_option maxRecDepth 100000 in
theorem max_rank (r : Int → Nat) : ∀ {xs : List Int}, xs ≠ [] → ∃ y ∈ xs, ∀ z ∈ xs, r z ≤ r y
  | [], h => absurd rfl h
  | [x], _ => ⟨x, by simp, fun z hz => by simp at hz; subst hz; exact Nat.le_refl _⟩
  | x :: y :: ys, _ => by
    obtain ⟨m, hm, hr⟩ := max_rank r (xs := y :: ys) (by simp)
    by_cases h : r m ≤ r x
    · refine ⟨x, by simp, fun z hz => ?_⟩
      rcases List.mem_cons.1 hz with rfl | hz
      · exact Nat.le_refl _
      · exact Nat.le_trans (hr z hz) h
    · refine ⟨m, List.mem_cons_of_mem _ hm, fun z hz => ?_⟩
      rcases List.mem_cons.1 hz with rfl | hz
      · omega
      · exact hr z hz
set_option maxRecDepth 100000 in
theorem next_some {kept : List (List Int)} {n : Nat} {out : List Int} (hr : Ranked kept) (hne : leftL n out ≠ []) :
    ∃ i : Nat, i < n ∧ nextQ kept n out i = true ∧ (∀ j, j < i → nextQ kept n out j = false) ∧ nextV kept n out = i := by
  obtain ⟨r, hr⟩ := hr
  obtain ⟨a, ha, hmax⟩ := max_rank r hne
  obtain ⟨i, hi, hno, rfl⟩ := leftL_mem.1 ha
  have hq : nextQ kept n out i = true := by
    unfold nextQ
    have h1 : notIn out i = true := by
      unfold notIn
      cases h : hasI out (i : Int)
      · rfl
      · exact absurd (hasI_iff.1 h) hno
    have h2 : freeB kept (leftL n out) i = true := by
      unfold freeB
      cases h : kept.any (fun x => (p1 x == (i : Int)) && hasI (leftL n out) (p0 x))
      · rfl
      · obtain ⟨x, hx, h⟩ := List.any_eq_true.1 h
        simp only [Bool.and_eq_true, beq_iff_eq] at h
        have h3 := hr x hx
        have h4 := hmax _ (hasI_iff.1 h.2)
        rw [h.1] at h3
        omega
    rw [h1, h2]; rfl
  cases hf : (List.range n).find? (nextQ kept n out) with
  | none =>
    rw [List.find?_eq_none] at hf
    exact absurd hq (hf i (List.mem_range.2 hi))
  | some k =>
    have hv : nextV kept n out = k := by unfold nextV; rw [hf]
    rw [List.find?_range_eq_some] at hf
    exact ⟨k, List.mem_range.1 hf.2.1, hf.1, fun j hj => by simpa using hf.2.2 j hj, hv⟩
set_option maxRecDepth 100000 in
theorem next_at {kept : List (List Int)} {n : Nat} {out : List Int} {i : Nat} (hi : i < n) (hq : nextQ kept n out i = true) (hno : ∀ j, j < i → nextQ kept n out j = false) : nextV kept n out = i := by
  have : (List.range n).find? (nextQ kept n out) = some i := by
    rw [List.find?_range_eq_some]
    exact ⟨hq, List.mem_range.2 hi, fun j hj => by simp [hno j hj]⟩
  unfold nextV; rw [this]
set_option maxRecDepth 100000 in
/-- Where the next one stands among those that are left. -/
theorem next_left {kept : List (List Int)} {n : Nat} {out : List Int} (hr : Ranked kept) (hne : leftL n out ≠ []) :
    ∃ k : Nat, findI (freeB kept (leftL n out)) (leftL n out) = k ∧ (leftL n out)[k]? = some (nextV kept n out) := by
  obtain ⟨i, hi, hq, hno, hv⟩ := next_some hr hne
  have hq' := hq
  unfold nextQ at hq'
  rw [Bool.and_eq_true] at hq'
  have hm : (i : Int) ∈ leftL n out := leftL_mem.2 ⟨i, hi, (fun h => by
    have h1 := hasI_iff.2 h
    have h2 := hq'.1
    unfold notIn at h2
    rw [h1] at h2; cases h2), rfl⟩
  have hs : leftL n out = leftL i out ++ (leftL n out).drop (leftL i out).length := by
    have key : ∀ d, leftL (i + d) out = leftL i out ++ (leftL (i + d) out).drop (leftL i out).length := by
      intro d
      induction d with
      | zero => simp
      | succ d ih =>
        have e : leftL (i + (d + 1)) out = leftL (i + d) out ++ if notIn out (i + d) then [((i + d : Nat) : Int)] else [] := upL_succ (i + d) (notIn out)
        rw [e]
        rw [ih]
        simp [List.append_assoc]
    have := key (n - i)
    rwa [show i + (n - i) = n by omega] at this
  have hat : (leftL n out)[(leftL i out).length]? = some (i : Int) := by
    have h1 : ∀ d, 1 ≤ d → (leftL (i + d) out)[(leftL i out).length]? = some (i : Int) := by
      intro d
      induction d with
      | zero => intro h; omega
      | succ d ih =>
        intro _
        have e : leftL (i + (d + 1)) out = leftL (i + d) out ++ if notIn out (i + d) then [((i + d : Nat) : Int)] else [] := upL_succ (i + d) (notIn out)
        rw [e]
        by_cases hd : d = 0
        · subst hd
          rw [Nat.add_zero, hq'.1, List.getElem?_append_right (Nat.le_refl _)]
          simp
        · have h2 := ih (by omega)
          rw [List.getElem?_append_left (lt_of_at h2)]
          exact h2
    have := h1 (n - i) (by omega)
    rwa [show i + (n - i) = n by omega] at this
  refine ⟨(leftL i out).length, ?_, by rw [hv]; exact hat⟩
  refine findI_some hat ?_ hq'.2
  rw [List.all_eq_true]
  intro y hy
  rw [hs, List.take_left'] at hy
  · obtain ⟨j, hj, hjo, rfl⟩ := leftL_mem.1 hy
    have h1 := hno j hj
    unfold nextQ at h1
    have h2 : notIn out j = true := by
      unfold notIn
      cases h : hasI out (j : Int)
      · rfl
      · exact absurd (hasI_iff.1 h) hjo
    rw [h2, Bool.true_and] at h1
    rw [h1]; rfl
  · rfl
set_option maxRecDepth 100000 in
/-- One that is left has been taken out. -/
theorem leftL_prL {kept : List (List Int)} {n : Nat} (hr : Ranked kept) : ∀ k, k ≤ n → (leftL n (prL kept n k)).length = n - k
  | 0, _ => by rw [prL, leftL_nil, upL_true_len]; rfl
  | k + 1, hk => by
    have ih := leftL_prL (n := n) hr k (by omega)
    have hne : leftL n (prL kept n k) ≠ [] := fun e => by rw [e] at ih; simp at ih; omega
    obtain ⟨i, _, hi⟩ := next_left hr hne
    have hlt := lt_of_at hi
    rw [prL, ← leftL_erase hi, List.length_eraseIdx, if_pos hlt, ih]
    omega

/-- x behind all that have a key at least as great, at the front of the list. -/
def insD {α : Type} (f : α → Int) (xs : List α) (a : α) : List α := xs.takeWhile (fun y => decide (f a ≤ f y)) ++ a :: xs.dropWhile (fun y => decide (f a ≤ f y))
def sortD {α : Type} (f : α → Int) (xs : List α) : List α := xs.foldl (insD f) []
set_option maxRecDepth 100000 in
theorem sortD_snoc {α : Type} (f : α → Int) (xs : List α) (a : α) : sortD f (xs ++ [a]) = insD f (sortD f xs) a := by simp [sortD]
set_option maxRecDepth 100000 in
theorem sortD_at {α : Type} {f : α → Int} {xs : List α} {k : Nat} {x : α} (h : xs[k]? = some x) : sortD f (xs.take (k + 1)) = insD f (sortD f (xs.take k)) x := by rw [take_at h, sortD_snoc]
set_option maxRecDepth 100000 in
theorem insD_len {α : Type} (f : α → Int) (xs : List α) (a : α) : (insD f xs a).length = xs.length + 1 := by
  have h : (xs.takeWhile (fun y => decide (f a ≤ f y)) ++ xs.dropWhile (fun y => decide (f a ≤ f y))).length = xs.length := by rw [List.takeWhile_append_dropWhile]
  rw [List.length_append] at h
  unfold insD
  rw [List.length_append, List.length_cons]; omega
set_option maxRecDepth 100000 in
theorem insD_perm {α : Type} (f : α → Int) (xs : List α) (a : α) : (insD f xs a).Perm (a :: xs) := by
  unfold insD
  refine List.perm_middle.trans ?_
  rw [List.takeWhile_append_dropWhile]
set_option maxRecDepth 100000 in
theorem insD_mem {α : Type} {f : α → Int} {xs : List α} {a y : α} : y ∈ insD f xs a ↔ y = a ∨ y ∈ xs := by
  rw [(insD_perm f xs a).mem_iff]; simp
set_option maxRecDepth 100000 in
theorem foldl_ins_perm {α : Type} (f : α → Int) : ∀ (xs acc : List α), (xs.foldl (insD f) acc).Perm (xs ++ acc)
  | [], acc => by simp
  | x :: xs, acc => by
    refine (foldl_ins_perm f xs (insD f acc x)).trans ?_
    refine ((List.Perm.refl xs).append (insD_perm f acc x)).trans ?_
    exact List.perm_middle
set_option maxRecDepth 100000 in
theorem sortD_perm {α : Type} (f : α → Int) (xs : List α) : (sortD f xs).Perm xs := by
  have h := foldl_ins_perm f xs []
  rw [List.append_nil] at h
  exact h
set_option maxRecDepth 100000 in
theorem sortD_len {α : Type} (f : α → Int) (xs : List α) : (sortD f xs).length = xs.length := (sortD_perm f xs).length_eq
set_option maxRecDepth 100000 in
theorem sortD_mem {α : Type} {f : α → Int} {xs : List α} {y : α} : y ∈ sortD f xs ↔ y ∈ xs := (sortD_perm f xs).mem_iff

def DescK {α : Type} (f : α → Int) (xs : List α) : Prop := xs.Pairwise (fun x y => f y ≤ f x)
set_option maxRecDepth 100000 in
theorem takeW_all {α : Type} {p : α → Bool} : ∀ {xs : List α} {y : α}, y ∈ xs.takeWhile p → p y = true
  | [], y, h => by simp at h
  | x :: xs, y, h => by
    rw [List.takeWhile_cons] at h
    split at h
    · rename_i hx
      rcases List.mem_cons.1 h with rfl | h
      · exact hx
      · exact takeW_all h
    · simp at h
set_option maxRecDepth 100000 in
theorem insD_desc {α : Type} {f : α → Int} : ∀ {xs : List α} (a : α), DescK f xs → DescK f (insD f xs a)
  | [], a, _ => by simp [DescK, insD]
  | x :: xs, a, h => by
    unfold DescK at h
    rw [List.pairwise_cons] at h
    have ih : DescK f (insD f xs a) := insD_desc a h.2
    by_cases hx : f a ≤ f x
    · have e : insD f (x :: xs) a = x :: insD f xs a := by simp [insD, hx]
      rw [e]
      unfold DescK
      rw [List.pairwise_cons]
      refine ⟨fun y hy => ?_, ih⟩
      rcases insD_mem.1 hy with rfl | hy
      · exact hx
      · exact h.1 y hy
    · have e : insD f (x :: xs) a = a :: x :: xs := by simp [insD, hx]
      rw [e]
      unfold DescK
      rw [List.pairwise_cons]
      refine ⟨fun y hy => ?_, List.pairwise_cons.2 h⟩
      rcases List.mem_cons.1 hy with rfl | hy
      · omega
      · have := h.1 y hy; omega
set_option maxRecDepth 100000 in
theorem foldl_ins_desc {α : Type} (f : α → Int) : ∀ (xs acc : List α), DescK f acc → DescK f (xs.foldl (insD f) acc)
  | [], _, h => h
  | x :: xs, _, h => foldl_ins_desc f xs _ (insD_desc x h)
set_option maxRecDepth 100000 in
theorem sortD_desc {α : Type} (f : α → Int) (xs : List α) : DescK f (sortD f xs) := foldl_ins_desc f xs [] List.Pairwise.nil

set_option maxRecDepth 100000 in
/-- A place in a descending list with only greater or equal keys before it and only smaller ones from it on is where insertion puts x. -/
theorem insD_place {α : Type} {f : α → Int} {a : α} : ∀ {xs : List α} {j : Nat}, (∀ y ∈ xs.take j, f a ≤ f y) → (∀ y ∈ xs.drop j, f y < f a) → insD f xs a = xs.take j ++ a :: xs.drop j
  | [], j, _, _ => by simp [insD]
  | x :: xs, 0, _, h2 => by
    have hx : ¬ f a ≤ f x := by have := h2 x (by simp); omega
    simp [insD, hx]
  | x :: xs, j + 1, h1, h2 => by
    have hx : f a ≤ f x := h1 x (by simp)
    have ih := insD_place (f := f) (a := a) (xs := xs) (j := j) (fun y hy => h1 y (by simp [hy])) (fun y hy => h2 y (by simpa using hy))
    have e : insD f (x :: xs) a = x :: insD f xs a := by simp [insD, hx]
    rw [e, ih]; simp
set_option maxRecDepth 100000 in
/-- The same where only the neighbour in front is known, the list being in order. -/
theorem insD_stop {α : Type} {f : α → Int} {a : α} {xs : List α} {j : Nat} (hd : DescK f xs) (h1 : j = 0 ∨ ∃ y, xs[j - 1]? = some y ∧ f a ≤ f y) (h2 : ∀ y ∈ xs.drop j, f y < f a) : insD f xs a = xs.take j ++ a :: xs.drop j := by
  refine insD_place (fun y hy => ?_) h2
  rcases h1 with rfl | ⟨z, hz, hle⟩
  · simp at hy
  · obtain ⟨i, hi⟩ := List.mem_iff_getElem?.1 hy
    have hij : i < j := by have := lt_of_at hi; rw [List.length_take] at this; omega
    rw [List.getElem?_take_of_lt hij] at hi
    rcases Nat.lt_or_ge i (j - 1) with hlt | hge
    · have hl1 := lt_of_at hi
      have hl2 := lt_of_at hz
      have := List.pairwise_iff_getElem.1 hd i (j - 1) hl1 hl2 hlt
      rw [List.getElem?_eq_getElem hl1] at hi
      rw [List.getElem?_eq_getElem hl2] at hz
      injection hi with hi
      injection hz with hz
      subst hi
      subst hz
      omega
    · have : i = j - 1 := by omega
      subst this
      rw [hi] at hz
      injection hz with hz
      subst hz
      exact hle
set_option maxRecDepth 100000 in
/-- How many stand in front, counted from the front. -/
theorem insD_count {α : Type} {f : α → Int} {a : α} {xs : List α} {k : Nat} (h1 : ∀ y ∈ xs.take k, f a ≤ f y) (h2 : k = xs.length ∨ ∃ y, xs[k]? = some y ∧ f y < f a) (hd : DescK f xs) : insD f xs a = xs.take k ++ a :: xs.drop k := by
  refine insD_place h1 (fun y hy => ?_)
  rcases h2 with rfl | ⟨z, hz, hlt⟩
  · simp at hy
  · obtain ⟨i, hi⟩ := List.mem_iff_getElem?.1 hy
    rw [List.getElem?_drop] at hi
    rcases Nat.eq_zero_or_pos i with rfl | hpos
    · rw [Nat.add_zero, hz] at hi
      injection hi with hi
      subst hi
      exact hlt
    · have hl1 := lt_of_at hz
      have hl2 := lt_of_at hi
      have := List.pairwise_iff_getElem.1 hd k (k + i) hl1 hl2 (by omega)
      rw [List.getElem?_eq_getElem hl1] at hz
      rw [List.getElem?_eq_getElem hl2] at hi
      injection hi with hi
      injection hz with hz
      subst hi
      subst hz
      omega

set_option maxRecDepth 100000 in
theorem flatMap_same {α β : Type} {f g : α → List β} : ∀ {l : List α}, (∀ x ∈ l, f x = g x) → l.flatMap f = l.flatMap g
  | [], _ => rfl
  | x :: l, h => by
    rw [List.flatMap_cons, List.flatMap_cons, h x (by simp), flatMap_same (fun y hy => h y (by simp [hy]))]
set_option maxRecDepth 100000 in
theorem flatMap_range {β : Type} (f : Int → List β) : ∀ s : List Int, s.flatMap f = (List.range s.length).flatMap (fun i => f (s.getD i 0))
  | [] => rfl
  | x :: s => by
    rw [List.flatMap_cons, flatMap_range f s, List.length_cons, List.range_succ_eq_map, List.flatMap_cons, List.flatMap_map]
    rfl

/-- The orders that begin with `pre`, k more candidates to come, as the spec draws them. -/
def allS (n : Nat) : Nat → List Int → List (List Int)
  | 0, pre => [pre]
  | k + 1, pre => (leftL n pre).flatMap (fun x => allS n k (pre ++ [x]))

/-- The orders of s (of length k) as the implementation draws them. -/
def ordL : Nat → List Int → List (List Int)
  | 0, _ => [[]]
  | k + 1, s => (List.range s.length).flatMap (fun i => (ordL k (s.eraseIdx i)).map (fun r => s.getD i 0 :: r))

set_option maxRecDepth 100000 in
theorem all_ord (n : Nat) : ∀ (k : Nat) (pre : List Int), allS n k pre = (ordL k (leftL n pre)).map (fun r => pre ++ r)
  | 0, pre => by simp [allS, ordL]
  | k + 1, pre => by
    unfold allS ordL
    rw [flatMap_range, List.map_flatMap]
    refine flatMap_same (fun i hi => ?_)
    have hi := List.mem_range.1 hi
    have hg : (leftL n pre)[i]? = some ((leftL n pre).getD i 0) := by
      rw [List.getD_eq_getElem?_getD, List.getElem?_eq_getElem hi]; rfl
    rw [all_ord n k, ← leftL_erase hg, List.map_map]
    refine List.map_congr_left (fun r _ => ?_)
    simp

set_option maxRecDepth 100000 in
theorem ordL_len (k : Nat) : ∀ (s : List Int), s.length = k → ∀ r ∈ ordL k s, r.length = k := by
  induction k with
  | zero => intro s _ r hr; simp [ordL] at hr; simp [hr]
  | succ k ih =>
    intro s hs r hr
    unfold ordL at hr
    obtain ⟨i, hi, hr⟩ := List.mem_flatMap.1 hr
    obtain ⟨t, ht, rfl⟩ := List.mem_map.1 hr
    have hi := List.mem_range.1 hi
    rw [List.length_cons, ih (s.eraseIdx i) (by rw [List.length_eraseIdx_of_lt hi]; omega) t ht]

/-- All rankings of n candidates. -/
def allO (n : Nat) : List (List Int) := allS n n []
set_option maxRecDepth 100000 in
theorem all_eq (n : Nat) : allO n = ordL n (leftL n []) := by
  unfold allO; rw [all_ord]; simp

/-- Counted from the earlier one. -/
def bkI (q : Int → Int → Bool) : List Int → Nat
  | [] => 0
  | x :: xs => xs.countP (fun y => q y x) + bkI q xs
/-- Counted from the later one. -/
def bkS (q : Int → Int → Bool) (r : List Int) (i : Nat) : Nat := match i with
  | 0 => 0
  | k + 1 => bkS q r k + (r.take k).countP (fun y => q (r.getD k 0) y)
set_option maxRecDepth 100000 in
theorem bkI_snoc (q : Int → Int → Bool) : ∀ (xs : List Int) (y : Int), bkI q (xs ++ [y]) = bkI q xs + xs.countP (fun x => q y x)
  | [], y => by simp [bkI]
  | x :: xs, y => by
    rw [List.cons_append, bkI, bkI_snoc q xs y, bkI, List.countP_append, List.countP_cons]
    simp only [List.countP_cons, List.countP_nil]
    omega
set_option maxRecDepth 100000 in
theorem bkS_bkI (q : Int → Int → Bool) (r : List Int) : ∀ k, k ≤ r.length → bkS q r k = bkI q (r.take k)
  | 0, _ => by simp [bkS, bkI]
  | k + 1, h => by
    obtain ⟨x, hx⟩ := at_of_lt (xs := r) (k := k) (by omega)
    rw [take_at hx, bkI_snoc, bkS, bkS_bkI q r k (by omega)]
    have : r.getD k 0 = x := by simp [List.getD, hx]
    rw [this]
set_option maxRecDepth 100000 in
theorem bkS_all (q : Int → Int → Bool) (r : List Int) : bkS q r r.length = bkI q r := by rw [bkS_bkI q r _ (Nat.le_refl _), List.take_length]
set_option maxRecDepth 100000 in
theorem bkI_bd (q : Int → Int → Bool) : ∀ xs : List Int, bkI q xs ≤ xs.length * xs.length
  | [] => by simp [bkI]
  | x :: xs => by
    have h := bkI_bd q xs
    have h2 := List.countP_le_length (p := fun y => q y x) (l := xs)
    rw [bkI, List.length_cons, Nat.add_mul, Nat.mul_add]
    omega
set_option maxRecDepth 100000 in
theorem bkI_congr {q q' : Int → Int → Bool} : ∀ {xs : List Int}, (∀ x ∈ xs, ∀ y ∈ xs, q x y = q' x y) → bkI q xs = bkI q' xs
  | [], _ => rfl
  | x :: xs, h => by
    rw [bkI, bkI, bkI_congr (xs := xs) (fun a ha b hb => h a (by simp [ha]) b (by simp [hb]))]
    congr 1
    exact List.countP_congr (fun y hy => by rw [h y (by simp [hy]) x (by simp)])
set_option maxRecDepth 100000 in
theorem bkI_zero {q : Int → Int → Bool} : ∀ {xs : List Int}, bkI q xs = 0 ↔ xs.Pairwise (fun x y => q y x = false)
  | [] => by simp [bkI]
  | x :: xs => by
    rw [bkI, List.pairwise_cons, ← bkI_zero (q := q) (xs := xs)]
    constructor
    · intro h
      have h1 : xs.countP (fun y => q y x) = 0 := by omega
      rw [List.countP_eq_zero] at h1
      exact ⟨fun y hy => by simpa using h1 y hy, by omega⟩
    · intro ⟨h1, h2⟩
      have : xs.countP (fun y => q y x) = 0 := by
        rw [List.countP_eq_zero]
        intro y hy
        rw [h1 y hy]; decide
      omega
/-- The part of the count from the earlier ones, up to place i, and in the middle of it. -/
def bkTo (q : Int → Int → Bool) (r : List Int) : Nat → Nat
  | 0 => 0
  | k + 1 => bkTo q r k + (r.drop (k + 1)).countP (fun y => q y (r.getD k 0))
set_option maxRecDepth 100000 in
theorem bkTo_drop (q : Int → Int → Bool) (r : List Int) : ∀ k, k ≤ r.length → bkTo q r k + bkI q (r.drop k) = bkI q r
  | 0, _ => by simp [bkTo]
  | k + 1, h => by
    obtain ⟨x, hx⟩ := at_of_lt (xs := r) (k := k) (by omega)
    have ih := bkTo_drop q r k (by omega)
    have hl := lt_of_at hx
    rw [List.drop_eq_getElem_cons hl, bkI] at ih
    have hg : r.getD k 0 = r[k] := by simp [List.getD, List.getElem?_eq_getElem hl]
    rw [bkTo, hg]
    omega
set_option maxRecDepth 100000 in
theorem bkTo_all (q : Int → Int → Bool) (r : List Int) : bkTo q r r.length = bkI q r := by
  have h := bkTo_drop q r r.length (Nat.le_refl _)
  rw [List.drop_length] at h
  simpa [bkI] using h

end Go.Proofs.YtilcdnkkabmbfaaGreat
