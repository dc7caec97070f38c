/- The greatest numbers of a list, and where they stand. All rankings, as the program draws them. Pairs of a list in which something holds for the later and the earlier one, counted in two ways (plain law). -/
import Derived.Test.YtkbbcglghfddjaaCg3
import Derived.Test.YtkbbcglghfddjaaCg6
import Derived.Test.YtkbbcglghfddjaaCg10
import Derived.Test.YtkbbcglghfddjaaCg11
import Derived.Test.YtkbbcglghfddjaaCg8
namespace Go.Proofs.Ytkbbcglghfddjaa
open Go.RowKit

def maxL : List Int → Int
  | [] => 0
  | x :: xs => xs.foldl max x
set_option maxRecDepth 100000 in
theorem maxL_snoc {ys : List Int} (x : Int) (h : ys ≠ []) : maxL (ys ++ [x]) = max (maxL ys) x := by
  cases ys with
  | nil => exact absurd rfl h
  | cons y ys => simp [maxL]
set_option maxRecDepth 100000 in
theorem maxL_at {xs : List Int} {k : Nat} {x : Int} (h : xs[k]? = some x) (hk : 1 ≤ k) : maxL (xs.take (k + 1)) = max (maxL (xs.take k)) x := by
  rw [take_at h]
  exact maxL_snoc x (fun e => by
    have := lt_of_at h
    have h2 : (xs.take k).length = 0 := by rw [e]; rfl
    rw [List.length_take] at h2; omega)
set_option maxRecDepth 100000 in
theorem foldl_ge (xs : List Int) : ∀ x, x ≤ xs.foldl max x ∧ ∀ y ∈ xs, y ≤ xs.foldl max x := by
  induction xs with
  | nil => intro x; simp
  | cons z xs ih =>
    intro x
    have h := ih (max x z)
    simp only [List.foldl_cons]
    refine ⟨by omega, fun y hy => ?_⟩
    rcases List.mem_cons.1 hy with rfl | hy
    · omega
    · exact h.2 y hy
set_option maxRecDepth 100000 in
theorem maxL_ge {xs : List Int} {x : Int} (h : x ∈ xs) : x ≤ maxL xs := by
  cases xs with
  | nil => cases h
  | cons z xs =>
    rcases List.mem_cons.1 h with rfl | h
    · exact (foldl_ge xs x).1
    · exact (foldl_ge xs z).2 x h
set_option maxRecDepth 100000 in
theorem foldl_mem (xs : List Int) : ∀ x, xs.foldl max x = x ∨ xs.foldl max x ∈ xs := by
  induction xs with
  | nil => intro x; exact .inl rfl
  | cons z xs ih =>
    intro x
    simp only [List.foldl_cons]
    rcases ih (max x z) with h | h
    · rw [h]
      by_cases e : x ≤ z
      · right; rw [show max x z = z by omega]; simp
      · left; omega
    · right; exact List.mem_cons_of_mem _ h
set_option maxRecDepth 100000 in
theorem maxL_mem {xs : List Int} (h : xs ≠ []) : maxL xs ∈ xs := by
  cases xs with
  | nil => exact absurd rfl h
  | cons z xs =>
    rcases foldl_mem xs z with h | h
    · show xs.foldl max z ∈ _
      rw [h]; simp
    · exact List.mem_cons_of_mem _ h

def isMax (xs : List Int) (m : Int) (i : Nat) : Bool := decide (xs[i]? = some m)
def bestL (xs : List Int) : List Int := upL xs.length (isMax xs (maxL xs))
/-- The best of the first k. -/
def bestT (xs : List Int) (k : Nat) : List Int := upL k (isMax xs (maxL (xs.take k)))
set_option maxRecDepth 100000 in
theorem bestT_all (xs : List Int) : bestT xs xs.length = bestL xs := by unfold bestT bestL; rw [List.take_length]
set_option maxRecDepth 100000 in
theorem bestT_len (xs : List Int) (k : Nat) : (bestT xs k).length ≤ k := upL_len _ _
set_option maxRecDepth 100000 in
theorem upL_none' {n : Nat} {q : Nat → Bool} (h : ∀ j, j < n → q j = false) : upL n q = [] := by
  unfold upL
  rw [List.map_eq_nil_iff, List.filter_eq_nil_iff]
  intro x hx
  rw [h x (List.mem_range.1 hx)]; simp
set_option maxRecDepth 100000 in
theorem bestT_new {xs : List Int} {k : Nat} {x : Int} (hx : xs[k]? = some x) (h : k = 0 ∨ maxL (xs.take k) < x) : bestT xs (k + 1) = [(k : Int)] := by
  have hm : maxL (xs.take (k + 1)) = x := by
    rcases h with rfl | h
    · rw [take_at hx]; simp [maxL]
    · by_cases hk : k = 0
      · subst hk; rw [take_at hx]; simp [maxL]
      · rw [maxL_at hx (by omega)]; omega
  unfold bestT
  rw [hm, upL_succ, upL_none' (fun j hj => ?_)]
  · simp [isMax, hx]
  · unfold isMax
    rw [decide_eq_false_iff_not]
    intro e
    have h1 : x ∈ xs.take k := by rw [List.mem_iff_getElem?]; exact ⟨j, by rw [List.getElem?_take_of_lt hj]; exact e⟩
    have h2 := maxL_ge h1
    omega
set_option maxRecDepth 100000 in
theorem bestT_tie {xs : List Int} {k : Nat} {x : Int} (hx : xs[k]? = some x) (hk : 1 ≤ k) (h : x = maxL (xs.take k)) : bestT xs (k + 1) = bestT xs k ++ [(k : Int)] := by
  have hm : maxL (xs.take (k + 1)) = maxL (xs.take k) := by rw [maxL_at hx hk]; omega
  unfold bestT
  rw [hm, upL_succ]
  simp [isMax, hx, h]
set_option maxRecDepth 100000 in
theorem bestT_not {xs : List Int} {k : Nat} {x : Int} (hx : xs[k]? = some x) (hk : 1 ≤ k) (h : x < maxL (xs.take k)) : bestT xs (k + 1) = bestT xs k := by
  have hm : maxL (xs.take (k + 1)) = maxL (xs.take k) := by rw [maxL_at hx hk]; omega
  have hne : ¬ x = maxL (xs.take k) := by omega
  unfold bestT
  rw [hm, upL_succ]
  simp [isMax, hx, hne]
set_option maxRecDepth 100000 in
theorem bestT_head {xs : List Int} {k : Nat} (hk : 1 ≤ k) (hl : k ≤ xs.length) : ∃ (i : Nat) (r : List Int), bestT xs k = (i : Int) :: r ∧ xs[i]? = some (maxL (xs.take k)) ∧ i < k ∧ ∀ j, j < i → xs[j]? ≠ some (maxL (xs.take k)) := by
  have hne : xs.take k ≠ [] := fun e => by
    have h2 : (xs.take k).length = 0 := by rw [e]; rfl
    rw [List.length_take] at h2; omega
  obtain ⟨i, hi⟩ := List.mem_iff_getElem?.1 (maxL_mem hne)
  have hik : i < k := by have := lt_of_at hi; rw [List.length_take] at this; omega
  rw [List.getElem?_take_of_lt hik] at hi
  have hq : isMax xs (maxL (xs.take k)) i = true := by simp [isMax, hi]
  unfold bestT
  generalize maxL (xs.take k) = m at hi hq ⊢
  clear hne hk hl
  induction k with
  | zero => omega
  | succ k ih =>
    by_cases hlt : i < k
    · obtain ⟨i0, r, h1, h2⟩ := ih hlt
      rw [upL_succ, h1]
      exact ⟨i0, r ++ _, rfl, h2.1, by omega, h2.2.2⟩
    · have hik : i = k := by omega
      subst hik
      by_cases hall : ∀ j, j < i → isMax xs m j = false
      · rw [upL_succ, upL_none' hall, hq]
        exact ⟨i, [], rfl, hi, by omega, fun j hj e => by have := hall j hj; simp [isMax, e] at this⟩
      · have : ∃ j, j < i ∧ isMax xs m j = true := by
          apply Classical.byContradiction
          intro hno
          exact hall (fun j hj => by
            cases h : isMax xs m j
            · rfl
            · exact absurd ⟨j, hj, h⟩ hno)
        obtain ⟨j, hj, hq2⟩ := this
        have key : ∀ k j, j < k → isMax xs m j = true → ∃ (i : Nat) (r : List Int), upL k (isMax xs m) = (i : Int) :: r ∧ xs[i]? = some m ∧ i < k ∧ ∀ j, j < i → xs[j]? ≠ some m := by
          intro k
          induction k with
          | zero => intro j hj; omega
          | succ k ih2 =>
            intro j hj hqj
            by_cases hex : ∃ j', j' < k ∧ isMax xs m j' = true
            · obtain ⟨j', hj', hq'⟩ := hex
              obtain ⟨i0, r, h1, h2, h3, h4⟩ := ih2 j' hj' hq'
              rw [upL_succ, h1]
              exact ⟨i0, r ++ _, rfl, h2, by omega, h4⟩
            · have hno : ∀ j', j' < k → isMax xs m j' = false := fun j' hj' => by
                cases h : isMax xs m j'
                · rfl
                · exact absurd ⟨j', hj', h⟩ hex
              have hjk : j = k := by
                rcases Nat.lt_or_ge j k with h | h
                · rw [hno j h] at hqj; cases hqj
                · omega
              subst hjk
              rw [upL_succ, upL_none' hno, hqj]
              exact ⟨j, [], rfl, by simpa [isMax] using hqj, by omega, fun j' hj' e => by have := hno j' hj'; simp [isMax, e] at this⟩
        exact key (i + 1) j (by omega) hq2

set_option maxRecDepth 100000 in
theorem OwnI.lit1 (w : World) (y : Int) : OwnI (w.alloc (.cells #[.int .i64 y] 3)) w.heap.size (.slice (some ⟨w.heap.size, 0, none⟩) 1 1) [y] :=
  ⟨rfl, .inr ⟨w.heap.size, 1, #[.int .i64 y], rfl, Nat.le_refl _, heap_alloc_new _ _, Nat.le_refl _, by simp [maxLen], rfl, rfl⟩⟩
set_option maxRecDepth 100000 in
theorem max_if (x y : Int) : (if x < y then y else x) = max x y := by split <;> omega
set_option maxRecDepth 100000 in
theorem max_if' (x y : Int) : (if y < x then x else y) = max x y := by split <;> omega

set_option maxRecDepth 100000 in
set_option maxHeartbeats 1000000 in
theorem max_impl (w : World) (a : Option Addr) (c : Nat) (xs : List Int) (hR : RdI w a xs) (hl : xs.length ≤ 2000000) (hne : 1 ≤ xs.length) :
    Calls Try.prog 39 #[.slice a xs.length c] w fun e w' => e = .returned (.int .i64 (maxL xs)) ∧ Ext w w' := by
  obtain ⟨x, hx⟩ := at_of_lt (xs := xs) (k := 0) (by omega)
  obtain ⟨b, off, rfl, c0⟩ := hR.at_ hx
  rw [Nat.add_zero] at c0
  have h1 : x = maxL (xs.take 1) := by
    cases xs with
    | nil => simp at hx
    | cons y ys => simp at hx; subst hx; simp [maxL]
  have H1 := hide h1
  clear hx h1
  go_enter Try.func39, Try.ntmps39
  go_wp2_with fail
  rw [H1.out]
  go_loopw [3, 4] (fun s i wr => ∃ k : Nat, 1 ≤ k ∧ k ≤ xs.length ∧ i = .int .i64 k ∧ s = .int .i64 (maxL (xs.take k)) ∧ Ext w wr) (fun _ i _ => xs.length - (intOf i).toNat)
  case atStart => exact ⟨1, by omega, hne, rfl, rfl, Ext.refl _⟩
  case round =>
    obtain ⟨k, hk1, hk, rfl, rfl, hwr⟩ := hrel
    by_cases hlt : k < xs.length
    · obtain ⟨y, hy⟩ := at_of_lt hlt
      obtain ⟨b', off', hb, c1⟩ := (hR.ext hwr).at_ hy
      injection hb with hb
      injection hb with hb hb2
      subst hb
      subst hb2
      have HY := hide hy
      clear hy
      go_wp2
      exact ⟨⟨k + 1, by omega, by omega, by go_num, by rw [maxL_at HY.out hk1]; first | rw [← max_if] | rw [← max_if'], (by repeat (first | exact Ext.refl _ | assumption | refine Ext.alloc ?_ _ | refine Ext.drew ?_ | refine Ext.trans ?_ (by assumption)))⟩, by simp [intOf]; omega⟩
    · go_wp2
      go_ret
      exact ⟨ret_int (by rw [List.take_of_length_le (by omega)]), hwr⟩

set_option maxRecDepth 100000 in
theorem OwnSS.lit1 (w : World) (u : Value) (xs : List Int) (hu : OwnI w w.heap.size u xs) (hn : u.ownBlock = none) : OwnSS (w.alloc (.cells #[u] 31)) w.heap.size (.slice (some ⟨w.heap.size, 0, none⟩) 1 1) [xs] := by
  refine ⟨[u], ⟨rfl, .inr ⟨w.heap.size, 1, #[u], rfl, Nat.le_refl _, heap_alloc_new _ _, Nat.le_refl _, by simp [maxLen], rfl, rfl⟩⟩, rfl, fun j ys h => ?_, fun i j z z' k hne hz hz' hk => ?_⟩
  · have : j = 0 := by
      have h2 := lt_of_at h
      rw [List.length_singleton] at h2; omega
    subst this
    simp at h
    subst h
    exact ⟨u, rfl, hu.ext (Ext.new _ _)⟩
  · have : i = 0 := by
      have h2 := lt_of_at hz
      rw [List.length_singleton] at h2; omega
    subst this
    simp at hz
    subst hz
    rw [hn] at hk; cases hk
set_option maxRecDepth 100000 in
theorem ordL_le : ∀ (k : Nat) (s : List Int), s.length = k → k ≤ 5 → (ordL k s).length ≤ 5 ^ k
  | 0, s, _, _ => by simp [ordL]
  | k + 1, s, hs, h5 => by
    have key : ∀ j, j ≤ s.length → ((List.range j).flatMap (fun i => (ordL k (s.eraseIdx i)).map (fun r => s.getD i 0 :: r))).length ≤ j * 5 ^ k := by
      intro j
      induction j with
      | zero => simp
      | succ j ih =>
        intro hj
        have h1 := ordL_le k (s.eraseIdx j) (by rw [List.length_eraseIdx, if_pos (by omega)]; omega) (by omega)
        have h2 := ih (by omega)
        rw [List.range_succ, List.flatMap_append, List.length_append, Nat.succ_mul]
        simp only [List.flatMap_cons, List.flatMap_nil, List.append_nil, List.length_map]
        omega
    have h1 := key s.length (Nat.le_refl _)
    have h2 : s.length * 5 ^ k ≤ 5 * 5 ^ k := Nat.mul_le_mul_right _ (by omega)
    rw [Nat.pow_succ, Nat.mul_comm]
    unfold ordL
    omega
/-- The orders that have been drawn when element j is next. -/
def ordTo (k : Nat) (s : List Int) (j : Nat) : List (List Int) := (List.range j).flatMap (fun i => (ordL k (s.eraseIdx i)).map (fun r => s.getD i 0 :: r))
def ordIn (k : Nat) (s : List Int) (j m : Nat) : List (List Int) := ordTo k s j ++ ((ordL k (s.eraseIdx j)).take m).map (fun r => s.getD j 0 :: r)
set_option maxRecDepth 100000 in
theorem ordTo_succ (k : Nat) (s : List Int) (j : Nat) : ordTo k s (j + 1) = ordIn k s j (ordL k (s.eraseIdx j)).length := by
  unfold ordTo ordIn
  rw [List.range_succ, List.flatMap_append, List.take_length]
  simp [ordTo]
set_option maxRecDepth 100000 in
theorem ordIn_succ {k : Nat} {s : List Int} {j m : Nat} {r : List Int} (h : (ordL k (s.eraseIdx j))[m]? = some r) : ordIn k s j (m + 1) = ordIn k s j m ++ [s.getD j 0 :: r] := by
  unfold ordIn
  rw [take_at h, List.map_append, List.append_assoc]; rfl
set_option maxRecDepth 100000 in
theorem ordTo_le {k : Nat} {s : List Int} (hs : s.length = k + 1) (h5 : k ≤ 4) : ∀ j, j ≤ s.length → (ordTo k s j).length ≤ j * 5 ^ k := by
  intro j
  induction j with
  | zero => simp [ordTo]
  | succ j ih =>
    intro hj
    have h1 := ordL_le k (s.eraseIdx j) (by rw [List.length_eraseIdx, if_pos (by omega)]; omega) (by omega)
    have h2 := ih (by omega)
    rw [ordTo_succ, ordIn, List.length_append, Nat.succ_mul]
    simp only [List.length_map, List.take_length]
    omega

set_option maxRecDepth 100000 in
set_option maxHeartbeats 4000000 in
theorem ord_impl : ∀ (k : Nat) (s : List Int) (w : World) (a : Option Addr) (c : Nat), s.length = k → k ≤ 5 → s.length ≤ c → RdI w a s →
    Calls Try.prog 67 #[.slice a s.length c] w fun e w' => ∃ v, e = .returned v ∧ OwnSS w' w.heap.size v (ordL k s) ∧ Ext w w' := by
  intro k
  induction k with
  | zero =>
    intro s w a c hs _ _ _
    have h0 : s = [] := List.length_eq_zero_iff.1 hs
    subst h0
    go_enter Try.func67, Try.ntmps67
    go_wp2
    go_ret
    exact ⟨_, rfl, OwnSS.lit1 w _ [] (OwnI.nil _ _) rfl, Ext.new _ _⟩
  | succ k ih =>
    intro s w a c hs h5 hc hR
    have hne : ((s.length : Int) == 0) = false := by rw [beq_eq_false_iff_ne]; omega
    have HS := hide hs
    have IH := hide ih
    have hc5 : s.length ≤ 5 := by omega
    have hpl : 5 ^ k ≤ 625 := Nat.pow_le_pow_right (n := 5) (by decide) (show k ≤ 4 by omega)
    clear ih hs
    go_enter Try.func67, Try.ntmps67
    go_wp2_with fail
    go_loopw [3, 4, 5, 7, 14, 28, 29, 30] (fun v _ _ _ i _ _ _ wr => ∃ j : Nat, j ≤ s.length ∧ i = .int .i64 j ∧ OwnSS wr w.heap.size v (ordTo k s j) ∧ Ext w wr) (fun _ _ _ _ i _ _ _ _ => s.length - (intOf i).toNat)
    case atStart => exact ⟨0, Nat.zero_le _, rfl, OwnSS.nil _ _, Ext.refl _⟩
    case round =>
      obtain ⟨j, hj, rfl, hown, hwr⟩ := hrel
      by_cases hjt : j < s.length
      · obtain ⟨x, hx⟩ := at_of_lt hjt
        obtain ⟨b, off, rfl, c0⟩ := (hR.ext hwr).at_ hx
        have hRr := hR.ext hwr
        have i1 : (j : Int) + 1 ≤ (c : Int) := by omega
        have i2 : j ≤ c := by omega
        have i3 : j + 1 ≤ c := by omega
        have i4 : j + 1 ≤ s.length := by omega
        have i7 : (j : Int) + 1 ≤ (s.length : Int) := by omega
        have i5 : ((j : Int) + 1).toNat = j + 1 := by omega
        have i6 : (0 : Int) ≤ (j : Int) + 1 := by omega
        have y1 : wrap64 ((j : Int) + 1) = (j : Int) + 1 := IntWalk.wrap64_in _ (by omega)
        have y2 : IntKind.i64.wrap ((j : Int) + 1) = (j : Int) + 1 := IntWalk.i64_in _ (by omega)
        go_wp2
        refine wp_region_O [11,0,1,2,3,4,5,6,7,8,9,10] (by kernel_rfl) rfl (by kernel_rfl) ?_
        repeat' (refine wpO_stepQ rfl (fun K hK => ?_)
                 go_simp
                 try (rw [if_neg (by intro h; simp [undef] at h)])
                 try split
                 all_goals
                   first
                   | (refine hK _ ?_
                      clear hK K)
                   | (apply Exists.intro
                      refine ⟨fun wq hwq => ?_, hK _ ?_⟩
                      · have hcq := hwq.cellS
                        go_simp
                        first
                        | exact ⟨Ext.refl _, rfl⟩
                      clear hK K))
        refine wpO_stepS rfl (by kernel_rfl) (fun K hK wq hwq => ?_)
        go_simp
        refine ⟨(by repeat (first | exact Ext.refl _ | assumption | refine Ext.alloc ?_ _ | refine Ext.drew ?_ | refine Ext.trans ?_ (by assumption))), hK _ _ ?_⟩
        clear hK K
        have hRd := hRr.drop (n := off + (j + 1)) (j + 1) c hc rfl
        generalize (if c = j + 1 then some (⟨b, off, none⟩ : Addr) else some ⟨b, off + (j + 1), none⟩) = A at hRd ⊢
        have f0 := new0 wq (.slice (some ⟨b, off, none⟩) j c) [.slice A (s.length - (j + 1)) (c - (j + 1))] 31
        have f1 := new1 wq (.slice (some ⟨b, off, none⟩) j c) (.slice A (s.length - (j + 1)) (c - (j + 1))) [] 31
        have hE8 : Ext wr (wq.alloc (.cells #[.slice (some ⟨b, off, none⟩) j c, .slice A (s.length - (j + 1)) (c - (j + 1))] 31)) := hwq.alloc _
        obtain ⟨gq, hgq⟩ : ∃ gq : Nat, gq = wq.heap.size := ⟨_, rfl⟩
        rw [← hgq] at f0 f1 ⊢
        generalize wq.alloc (.cells #[.slice (some ⟨b, off, none⟩) j c, .slice A (s.length - (j + 1)) (c - (j + 1))] 31) = wa at f0 f1 hE8 ⊢
        have HC : Hid (∀ w', Ext wa w' → Calls Try.prog 87 #[.slice (some ⟨gq, 0, none⟩) 2 2] w' fun e w'' => ∃ v, e = .returned v ∧ OwnI w'' w'.heap.size v (s.take j ++ s.drop (j + 1)) ∧ Ext w' w'') := fun w' hw' => by
          have l1 : (s.take j).length = j := by rw [List.length_take]; omega
          have l2 : (s.drop (j + 1)).length = s.length - (j + 1) := List.length_drop
          refine cat_impl w' gq (some ⟨b, off, none⟩) A c (c - (j + 1)) (s.take j) (s.drop (j + 1)) ?_ ?_ ?_ ?_ ?_
          · rw [l1]; exact hw'.keep f0
          · rw [l2]; exact hw'.keep f1
          · exact (hRr.ext (hE8.trans hw')).take j
          · exact hRd.ext (hE8.trans hw')
          · omega
        clear f0 f1 hgq hRd
        refine wpO_stepS rfl (by kernel_rfl) (fun K hK wq hwq => ?_)
        go_simp
        refine (HC.out _ hwq).mono ?_
        rintro e w3 ⟨v, rfl, hv, hw3⟩
        refine ⟨hw3, hK _ _ ?_⟩
        clear hK K
        have he : s.take j ++ s.drop (j + 1) = s.eraseIdx j := (List.eraseIdx_eq_take_drop_succ s j).symm
        rw [he] at hv
        have hel : (s.eraseIdx j).length = k := by
          have := HS.out
          rw [List.length_eraseIdx, if_pos hjt]; omega
        have hE9 : Ext wr w3 := hE8.trans (hwq.trans hw3)
        have HEL := hide hel
        obtain ⟨a2, c2, rfl, hc2, _, hR2, _⟩ := hv.val
        obtain ⟨wb, hwb⟩ : ∃ wb : World, wb = w3 := ⟨_, rfl⟩
        subst hwb
        have HI : Hid (∀ w', Ext wb w' → Calls Try.prog 67 #[.slice a2 (s.eraseIdx j).length c2] w' fun e w'' => ∃ v, e = .returned v ∧ OwnSS w'' w'.heap.size v (ordL k (s.eraseIdx j)) ∧ Ext w' w'') := fun w' hw' => IH.out (s.eraseIdx j) w' a2 c2 hel (by omega) hc2 (hR2.ext hw')
        clear hel hv hwq hw3 hE8 HC he hR2
        refine wpO_stepS rfl (by kernel_rfl) (fun K hK wq hwq => ?_)
        go_simp
        refine (HI.out _ hwq).mono ?_
        rintro e w4 ⟨v, rfl, hv4, hw4⟩
        refine ⟨hw4, hK _ _ ?_⟩
        clear hK K
        have hE10 : Ext wr w4 := hE9.trans (hwq.trans hw4)
        have hlo : wr.heap.size ≤ wq.heap.size := (hE9.trans hwq).size
        obtain ⟨lo, hlo'⟩ : ∃ lo : Nat, lo = wq.heap.size := ⟨_, rfl⟩
        rw [← hlo'] at hv4 hlo
        have hrl := ordL_le k (s.eraseIdx j) HEL.out (by omega)
        have hlow4 : lo ≤ w4.heap.size := by rw [hlo']; exact hw4.size
        have HRL : Hid (∀ r ∈ ordL k (s.eraseIdx j), r.length = k) := ordL_len k (s.eraseIdx j) HEL.out
        clear hwq hw4 hE9 hlo' HI
        have hT := ordTo_le HS.out (by omega) j hj
        have hT2 : j * 5 ^ k ≤ 5 * 5 ^ k := Nat.mul_le_mul_right _ (by omega)
        have hS0 : ordTo k s j = ordIn k s j 0 := by simp [ordIn]
        have hS1 := ordTo_succ k s j
        rw [hS0] at hown hT
        have HS1 := hide hS1
        have HIN : Hid (∀ m r, (ordL k (s.eraseIdx j))[m]? = some r → ordIn k s j (m + 1) = ordIn k s j m ++ [s.getD j 0 :: r]) := fun m r h => ordIn_succ h
        have HLN : Hid (∀ m, (ordIn k s j m).length ≤ (ordIn k s j 0).length + m) := fun m => by
          unfold ordIn
          simp only [List.length_append, List.length_map, List.length_take]
          omega
        have hgd : s.getD j 0 = x := by simp [List.getD, hx]
        rw [hgd] at HIN
        generalize ordL k (s.eraseIdx j) = rows at hv4 hrl HRL HS1 HIN
        clear hS0 hS1 hgd hx c0 HEL
        have hv5 := hv4.wr
        obtain ⟨av, cv, rfl, hcv, _⟩ := hv5
        have hv5 := hv4.wr
        clear hv4
        repeat' (refine wpO_stepQ rfl (fun K hK => ?_)
                 go_simp
                 try (rw [if_neg (by intro h; simp [undef] at h)])
                 try split
                 all_goals
                   first
                   | (refine hK _ ?_
                      clear hK K)
                   | (apply Exists.intro
                      refine ⟨fun wq hwq => ?_, hK _ ?_⟩
                      · have hcq := hwq.cellS
                        go_simp
                        first
                        | exact ⟨Ext.refl _, rfl⟩
                      clear hK K))
        refine wpO_nil (fun wz hwz => ?_)
        obtain ⟨wc, hwc⟩ : ∃ wc : World, wc = wz := ⟨_, rfl⟩
        subst hwc
        have hE11 := hE10.trans hwz
        have hv6 := hv5.ext hwz
        have hlow : lo ≤ wc.heap.size := Nat.le_trans hlow4 hwz.size
        have hob : Hid (∀ q, u3.ownBlock = some q → q < lo ∨ wc.heap.size ≤ q) := fun q hq => by
          obtain ⟨cs, hcs, _⟩ := hown
          have := (World.ownsRow.lt hcs q hq).2
          omega
        have hown := hown.ext hE11
        clear hE10 hwz hv5 hlow4
        have hwr0 := hwr.trans hE11
        clear hE11 hwr hRr hT2
        have hT3 : (ordIn k s j 0).length ≤ 3125 := by
          have : j * 5 ^ k ≤ 5 * 625 := Nat.mul_le_mul (by omega) hpl
          omega
        go_wp2_with fail
        go_loopw [3, 7, 30] (fun v _ m wr => ∃ q : Nat, q ≤ rows.length ∧ m = .int .i64 q ∧ OwnSS wr w.heap.size v (ordIn k s j q) ∧ Ext w wr ∧ Keeps lo wc.heap.size wc wr ∧ Hid (∀ b, v.ownBlock = some b → b < lo ∨ wc.heap.size ≤ b)) (fun _ _ m _ => rows.length - (intOf m).toNat)
        case atStart => exact ⟨0, Nat.zero_le _, rfl, hown, hwr0, Keeps.refl _ _ _, hob⟩
        case round =>
          clear hown hwr0 hob
          obtain ⟨q, hq, rfl, hown, hwr, hkp, hob⟩ := hrel
          have hln := HLN.out q
          have hcw := hkp.1
          by_cases hqt : q < rows.length
          · obtain ⟨r, hr⟩ := at_of_lt hqt
            obtain ⟨g, c3, a3, c4, hav, d0, hc4, hR3⟩ := (hv6.keeps hkp (Nat.le_refl _)).at_ hr
            injection hav with hav hav2 hav3
            subst hav
            subst hav3
            clear hav2
            have hrk := hide (HRL.out r (List.mem_of_getElem? hr))
            have HR := hide hr
            have l0 := (OwnI.lit1 wr x).rdI
            have f0 := new0 (wr.alloc (.cells #[.int .i64 x] 3)) (.slice (some ⟨wr.heap.size, 0, none⟩) 1 1) [.slice a3 r.length c4] 31
            have f1 := new1 (wr.alloc (.cells #[.int .i64 x] 3)) (.slice (some ⟨wr.heap.size, 0, none⟩) 1 1) (.slice a3 r.length c4) [] 31
            have hs1 : (wr.alloc (.cells #[.int .i64 x] 3)).heap.size = wr.heap.size + 1 := by simp
            rw [hs1] at f0 f1
            have hE5 : Ext wr ((wr.alloc (.cells #[.int .i64 x] 3)).alloc (.cells #[.slice (some ⟨wr.heap.size, 0, none⟩) 1 1, .slice a3 r.length c4] 31)) := (Ext.new _ _).trans (Ext.new _ _)
            have HC := hide (cat_impl _ (wr.heap.size + 1) (some ⟨wr.heap.size, 0, none⟩) a3 1 c4 [x] r f0 f1 (l0.ext (Ext.new _ _)) (hR3.ext hE5) (by have := hrk.out; simp; omega))
            clear hr f0 f1 l0
            go_wp2_with fail
            refine HC.out.mono ?_
            rintro e w3 ⟨v3, rfl, hv3, hw3⟩
            have hE6 := hE5.trans hw3
            have hv3 := hv3.base hE5.size
            obtain ⟨a5, n5, c5, rfl⟩ := hv3.form
            clear HC hE5 hw3 hR3 d0
            go_wp2_with (at_builtin; go_loud (refine wpList_appSF w wr _ rfl _ _ rfl _ (ordIn k s j q) _ (x :: r) rfl (by exact hown) hwr hE6 (by exact hv3) rfl (by omega) ?_); intro v' w4 h1 h2 h3 h4)
            have hkp2 := (hkp.ext hE6 hcw).grown h3 (Nat.le_trans hcw hE6.size) hob.out
            exact ⟨⟨q + 1, by omega, by go_num, by rw [HIN.out q r HR.out]; exact h1, h2, hkp2, h4.out hob.out (Nat.le_trans hcw hE6.size)⟩, by simp [intOf]; omega⟩
          · have hqn : q = rows.length := by omega
            go_wp2
            rw [hqn, ← HS1.out] at hown
            exact ⟨⟨j + 1, by omega, by go_num, hown, hwr⟩, by simp [intOf]; omega⟩
      · have hjn : j = s.length := by omega
        go_wp2
        go_ret
        rw [hjn] at hown
        exact ⟨_, rfl, hown, hwr⟩

set_option maxRecDepth 100000 in
set_option maxHeartbeats 1000000 in
theorem allR_impl (w : World) (n : Nat) (n1 : 1 ≤ n) (n2 : n ≤ 5) :
    Calls Try.prog 37 #[.int .i64 n] w fun e w' => ∃ v, e = .returned v ∧ OwnSS w' w.heap.size v (allO n) ∧ Ext w w' := by
  have hin : inR (n : Int) 1 5 = true := inR_iff.2 (by omega)
  go_enter Try.func37, Try.ntmps37
  go_wp2_with (go_at_call 50; refine (in_impl _ _ _ _).mono ?_; rintro e w1 ⟨rfl, hw1⟩)
  refine (indices_impl _ n n2).mono ?_
  rintro e w2 ⟨rfl, hB, hw2⟩
  have hl : (leftL n []).length = n := by rw [leftL_nil, upL_true_len]
  have hRd := hB.rdL (xs := leftL n []) (by omega) (fun j x hx => by
    rw [leftL_nil, ← iotaL_up] at hx
    obtain ⟨_, rfl⟩ := rowL_val hx
    rfl)
  have h := ord_impl n (leftL n []) w2 (some ⟨w1.heap.size, 0, none⟩) n hl n2 (by omega) hRd
  rw [hl, ← all_eq] at h
  have HH := hide h
  clear h hl hRd
  go_wp2_with fail
  refine HH.out.mono ?_
  rintro e w3 ⟨v, rfl, hO, hE⟩
  go_wp2
  go_ret
  exact ⟨_, rfl, hO.base (Nat.le_trans hw1.size hw2.size), hw1.trans (hw2.trans hE)⟩

/-- Counted from the earlier one. -/
def bkI (q : Int → Int → Bool) : List Int → Nat
  | [] => 0
  | x :: xs => xs.countP (fun y => q y x) + bkI q xs
/-- Counted from the later one. -/
def bkS (q : Int → Int → Bool) (r : List Int) (i : Nat) : Nat := match i with
  | 0 => 0
  | k + 1 => bkS q r k + (r.take k).countP (fun y => q (r.getD k 0) y)
set_option maxRecDepth 100000 in
theorem bkI_snoc (q : Int → Int → Bool) : ∀ (xs : List Int) (y : Int), bkI q (xs ++ [y]) = bkI q xs + xs.countP (fun x => q y x)
  | [], y => by simp [bkI]
  | x :: xs, y => by
    rw [List.cons_append, bkI, bkI_snoc q xs y, bkI, List.countP_append, List.countP_cons]
    simp only [List.countP_cons, List.countP_nil]
    omega
set_option maxRecDepth 100000 in
theorem bkS_bkI (q : Int → Int → Bool) (r : List Int) : ∀ k, k ≤ r.length → bkS q r k = bkI q (r.take k)
  | 0, _ => by simp [bkS, bkI]
  | k + 1, h => by
    obtain ⟨x, hx⟩ := at_of_lt (xs := r) (k := k) (by omega)
    rw [take_at hx, bkI_snoc, bkS, bkS_bkI q r k (by omega)]
    have : r.getD k 0 = x := by simp [List.getD, hx]
    rw [this]
set_option maxRecDepth 100000 in
theorem bkS_all (q : Int → Int → Bool) (r : List Int) : bkS q r r.length = bkI q r := by rw [bkS_bkI q r _ (Nat.le_refl _), List.take_length]
set_option maxRecDepth 100000 in
theorem bkI_bd (q : Int → Int → Bool) : ∀ xs : List Int, bkI q xs ≤ xs.length * xs.length
  | [] => by simp [bkI]
  | x :: xs => by
    have h := bkI_bd q xs
    have h2 := List.countP_le_length (p := fun y => q y x) (l := xs)
    rw [bkI, List.length_cons, Nat.add_mul, Nat.mul_add]
    omega
set_option maxRecDepth 100000 in
theorem bkI_congr {q q' : Int → Int → Bool} : ∀ {xs : List Int}, (∀ x ∈ xs, ∀ y ∈ xs, q x y = q' x y) → bkI q xs = bkI q' xs
  | [], _ => rfl
  | x :: xs, h => by
    rw [bkI, bkI, bkI_congr (xs := xs) (fun a ha b hb => h a (by simp [ha]) b (by simp [hb]))]
    congr 1
    exact List.countP_congr (fun y hy => by rw [h y (by simp [hy]) x (by simp)])
set_option maxRecDepth 100000 in
theorem bkI_zero {q : Int → Int → Bool} : ∀ {xs : List Int}, bkI q xs = 0 ↔ xs.Pairwise (fun x y => q y x = false)
  | [] => by simp [bkI]
  | x :: xs => by
    rw [bkI, List.pairwise_cons, ← bkI_zero (q := q) (xs := xs)]
    constructor
    · intro h
      have h1 : xs.countP (fun y => q y x) = 0 := by omega
      rw [List.countP_eq_zero] at h1
      exact ⟨fun y hy => by simpa using h1 y hy, by omega⟩
    · intro ⟨h1, h2⟩
      have : xs.countP (fun y => q y x) = 0 := by
        rw [List.countP_eq_zero]
        intro y hy
        rw [h1 y hy]; decide
      omega
/-- The part of the count from the earlier ones, up to place i, and in the middle of it. -/
def bkTo (q : Int → Int → Bool) (r : List Int) : Nat → Nat
  | 0 => 0
  | k + 1 => bkTo q r k + (r.drop (k + 1)).countP (fun y => q y (r.getD k 0))
set_option maxRecDepth 100000 in
theorem bkTo_drop (q : Int → Int → Bool) (r : List Int) : ∀ k, k ≤ r.length → bkTo q r k + bkI q (r.drop k) = bkI q r
  | 0, _ => by simp [bkTo]
  | k + 1, h => by
    obtain ⟨x, hx⟩ := at_of_lt (xs := r) (k := k) (by omega)
    have ih := bkTo_drop q r k (by omega)
    have hl := lt_of_at hx
    rw [List.drop_eq_getElem_cons hl, bkI] at ih
    have hg : r.getD k 0 = r[k] := by simp [List.getD, List.getElem?_eq_getElem hl]
    rw [bkTo, hg]
    omega
set_option maxRecDepth 100000 in
theorem bkTo_all (q : Int → Int → Bool) (r : List Int) : bkTo q r r.length = bkI q r := by
  have h := bkTo_drop q r r.length (Nat.le_refl _)
  rw [List.drop_length] at h
  simpa [bkI] using h

end Go.Proofs.Ytkbbcglghfddjaa
