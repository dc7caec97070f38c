/- The score of a committee, in both packages; how many voters it covers. CommitteesOf of both packages. The first of some sets with the greatest worth. -/
import Derived.Test.YthiojkpoeejkaaaCa8
namespace Go.Proofs.Ythiojkpoeejkaaa
open Go.RowKit

/-- A sum over a list. -/
def sumM {α : Type} (f : α → Int) (xs : List α) : Int := (xs.map f).sum
set_option maxRecDepth 100000 in
theorem sumM_at {α : Type} {f : α → Int} {xs : List α} {k : Nat} {x : α} (hx : xs[k]? = some x) : sumM f (xs.take (k + 1)) = sumM f (xs.take k) + f x := by
  rw [take_at hx]; simp [sumM]
set_option maxRecDepth 100000 in
theorem sumM_bd {α : Type} {f : α → Int} {xs : List α} {c : Int} (h : ∀ x ∈ xs, 0 ≤ f x ∧ f x ≤ c) : ∀ k : Nat, k ≤ xs.length → 0 ≤ sumM f (xs.take k) ∧ sumM f (xs.take k) ≤ c * k
  | 0, _ => by simp [sumM]
  | k + 1, hk => by
    obtain ⟨x, hx⟩ := at_of_lt (xs := xs) (k := k) (by omega)
    have h1 := sumM_bd h k (by omega)
    have h2 := h x (List.mem_of_getElem? hx)
    rw [sumM_at hx, show c * ((k + 1 : Nat) : Int) = c * k + c by rw [Int.natCast_add, Int.mul_add]; simp]
    omega

/-- c * 60 / 1 + .. + c * 60 / n. -/
def harm (c : Int) : Nat → Int
  | 0 => 0
  | n + 1 => harm c n + c * 60 / ((n : Int) + 1)
set_option maxRecDepth 100000 in
theorem harm_bd {c : Int} (h0 : 1 ≤ c) (h1 : c ≤ 1000) : ∀ n : Nat, 0 ≤ harm c n ∧ harm c n ≤ 60000 * n
  | 0 => by simp [harm]
  | n + 1 => by
    have h := harm_bd h0 h1 n
    have hd : 0 ≤ c * 60 / ((n : Int) + 1) := Int.ediv_nonneg (by omega) (by omega)
    have hd2 : c * 60 / ((n : Int) + 1) ≤ c * 60 := Int.ediv_le_self _ (by omega)
    simp only [harm]
    omega
set_option maxRecDepth 100000 in
theorem harm_mono {c : Int} (h0 : 1 ≤ c) : ∀ (n m : Nat), n ≤ m → harm c n ≤ harm c m := fun n m h => by
  induction h with
  | refl => exact Int.le_refl _
  | @step m _ ih =>
    have hd : 0 ≤ c * 60 / ((m : Int) + 1) := Int.ediv_nonneg (by omega) (by omega)
    simp only [harm]
    omega
def scOne (set : Int) (x : Int × Int) : Int := harm x.2 (cntTo (landI x.1 set) 6).toNat
def scoreOf (bs : List (Int × Int)) (set : Int) : Int := sumM (scOne set) bs
set_option maxRecDepth 100000 in
theorem cnt6 (s : Int) : ∃ n : Nat, cntTo s 6 = (n : Int) ∧ n ≤ 6 := ⟨(cntTo s 6).toNat, by have := cnt_bd s 6; omega, by have := cnt_bd s 6; omega⟩
set_option maxRecDepth 100000 in
theorem scOne_bd {x : Int × Int} (h0 : 1 ≤ x.2) (h1 : x.2 ≤ 1000) (set : Int) : 0 ≤ scOne set x ∧ scOne set x ≤ 360000 := by
  obtain ⟨n, hn, h6⟩ := cnt6 (landI x.1 set)
  unfold scOne
  rw [hn, Int.toNat_natCast]
  have := harm_bd h0 h1 n
  omega
set_option maxRecDepth 100000 in
theorem score_bd {bs : List (Int × Int)} (h : Small bs) (set : Int) (k : Nat) (hk : k ≤ bs.length) : 0 ≤ sumM (scOne set) (bs.take k) ∧ sumM (scOne set) (bs.take k) ≤ 360000 * k :=
  sumM_bd (fun x hx => scOne_bd (h.2 x hx).2.2.1 (h.2 x hx).2.2.2 set) k hk

set_option maxRecDepth 100000 in
set_option maxHeartbeats 4000000 in
theorem score_impl (w : World) (sz set : Int) (a : Option Addr) (c : Nat) (bs : List (Int × Int)) (hR : RdP w a bs) (hS : Small bs) (s0 : 0 ≤ set) (s63 : set ≤ 63) :
    Calls Try.prog 90 #[.agg #[.int .i64 sz, .slice a bs.length c], .int .i64 set] w fun e w' => e = .returned (.int .i64 (scoreOf bs set)) ∧ Ext w w' := by
  have HS := hide hS
  have hl := hS.1
  clear hS
  go_enter Try.func90, Try.ntmps90
  go_wp2_with fail
  go_loopw [5, 7, 8, 12] (fun s _ _ i wr => ∃ k : Nat, k ≤ bs.length ∧ i = .int .i64 k ∧ s = .int .i64 (sumM (scOne set) (bs.take k)) ∧ Ext w wr) (fun _ _ _ i _ => bs.length - (intOf i).toNat)
  case atStart => exact ⟨0, Nat.zero_le _, rfl, rfl, (by repeat (first | exact Ext.refl _ | assumption | refine Ext.alloc ?_ _ | refine Ext.drew ?_ | refine Ext.trans ?_ (by assumption)))⟩
  case round =>
    obtain ⟨k, hk, rfl, rfl, hwr⟩ := hrel
    obtain ⟨b1, b2⟩ := score_bd HS.out set k hk
    by_cases hlt : k < bs.length
    · obtain ⟨x, hx⟩ := at_of_lt hlt
      obtain ⟨b, off, rfl, c0, c1⟩ := (hR.ext hwr).at_ hx
      obtain ⟨x0, x63, x1, x2⟩ := HS.out.2 x (List.mem_of_getElem? hx)
      have HX := hide hx
      clear hx
      obtain ⟨l0, l1⟩ := landI_bd s0 s63 x0 x63
      obtain ⟨n, hn, h6⟩ := cnt6 (landI set x.1)
      have HN := hide hn
      clear hn
      obtain ⟨wo, rfl⟩ : ∃ wo : World, wo = wr := ⟨_, rfl⟩
      go_wp2_with fail
      have e0 := new0 wo (.int .i64 x.1) [.int .i64 x.2] 41
      have e1 := new1 wo (.int .i64 x.1) (.int .i64 x.2) [] 41
      go_loopw [5, 8] (fun s i wr => ∃ j : Nat, j ≤ n ∧ i = .int .i64 ((j : Int) + 1) ∧ s = .int .i64 (sumM (scOne set) (bs.take k) + harm x.2 j) ∧ Ext (wo.alloc (.cells #[.int .i64 x.1, .int .i64 x.2] 41)) wr) (fun _ i _ => n + 1 - (intOf i).toNat)
      case atStart => exact ⟨0, Nat.zero_le _, rfl, by simp [harm], Ext.refl _⟩
      case round =>
        obtain ⟨j, hj, rfl, rfl, hwr2⟩ := hrel
        obtain ⟨g1, g2⟩ := harm_bd x1 x2 j
        have e0 := hwr2.keep e0
        have e1 := hwr2.keep e1
        unfold landI at l0 l1
        have hcn := size_impl (s := bits BinOp.and IntKind.i64 set x.1) (h0 := l0) (h63 := l1)
        rw [show cntTo (bits BinOp.and IntKind.i64 set x.1) 6 = (n : Int) from HN.out] at hcn
        have HC := hide hcn
        clear hcn
        by_cases hjn : j < n
        · go_wp2_with (go_at_call 23; refine (HC.out _).mono ?_; rintro e w1 ⟨rfl, hw1⟩; have e0 := Ext.keep (w' := w1) (by repeat (first | exact Ext.refl _ | assumption | refine Ext.alloc ?_ _ | refine Ext.drew ?_ | refine Ext.trans ?_ (by assumption))) e0; have e1 := Ext.keep (w' := w1) (by repeat (first | exact Ext.refl _ | assumption | refine Ext.alloc ?_ _ | refine Ext.drew ?_ | refine Ext.trans ?_ (by assumption))) e1)
          have hj1 := harm_bd x1 x2 (j + 1)
          simp only [harm] at hj1
          exact ⟨⟨j + 1, by omega, by go_num, by rw [IntWalk.wrap64_in _ (by omega)]; simp only [harm]; congr 1; omega, (by repeat (first | exact Ext.refl _ | assumption | refine Ext.alloc ?_ _ | refine Ext.drew ?_ | refine Ext.trans ?_ (by assumption)))⟩, by simp [intOf]; omega⟩
        · obtain rfl : j = n := by omega
          go_wp2_with (go_at_call 23; refine (HC.out _).mono ?_; rintro e w1 ⟨rfl, hw1⟩; have e0 := Ext.keep (w' := w1) (by repeat (first | exact Ext.refl _ | assumption | refine Ext.alloc ?_ _ | refine Ext.drew ?_ | refine Ext.trans ?_ (by assumption))) e0; have e1 := Ext.keep (w' := w1) (by repeat (first | exact Ext.refl _ | assumption | refine Ext.alloc ?_ _ | refine Ext.drew ?_ | refine Ext.trans ?_ (by assumption))) e1)
          exact ⟨⟨k + 1, by omega, by go_num, by rw [sumM_at HX.out, scOne, landI_comm, HN.out, Int.toNat_natCast], (by repeat (first | exact Ext.refl _ | assumption | refine Ext.alloc ?_ _ | refine Ext.drew ?_ | refine Ext.trans ?_ (by assumption)))⟩, by simp [intOf]; omega⟩
    · go_wp2
      go_ret
      exact ⟨ret_int (by rw [List.take_of_length_le (by omega)]; rfl), hwr⟩

/-- The sets below m with k members. -/
def commTo (m : Nat) (k : Int) : List Int := ((List.range m).map (fun i : Nat => (i : Int))).filter (fun s => decide (cntTo s 6 = k))
set_option maxRecDepth 100000 in
theorem commTo_succ (m : Nat) (k : Int) : commTo (m + 1) k = commTo m k ++ if cntTo (m : Int) 6 = k then [(m : Int)] else [] := by
  unfold commTo
  rw [List.range_succ, List.map_append, List.filter_append]
  by_cases h : cntTo (m : Int) 6 = k <;> simp [h]
set_option maxRecDepth 100000 in
theorem commTo_len (m : Nat) (k : Int) : (commTo m k).length ≤ m := by
  unfold commTo
  have := List.length_filter_le (fun s => decide (cntTo s 6 = k)) ((List.range m).map (fun i : Nat => (i : Int)))
  simpa using this
set_option maxRecDepth 100000 in
theorem commTo_mem {m : Nat} {k s : Int} (h : s ∈ commTo m k) : 0 ≤ s ∧ s < m ∧ cntTo s 6 = k := by
  unfold commTo at h
  rw [List.mem_filter] at h
  obtain ⟨h1, h2⟩ := h
  obtain ⟨i, hi, rfl⟩ := List.mem_map.1 h1
  rw [List.mem_range] at hi
  refine ⟨by omega, by omega, by simpa using h2⟩
def commOf (sz : Int) (bs : List (Int × Int)) (k : Int) : List Int := if appOk sz bs && inR k 1 sz then commTo (topOf sz + 1).toNat k else []
set_option maxRecDepth 100000 in
theorem topN {sz : Int} (h1 : 1 ≤ sz) (h6 : sz ≤ 6) : ∃ t : Nat, topOf sz + 1 = (t : Int) ∧ 1 ≤ t ∧ t ≤ 64 := by
  have : sz = 1 ∨ sz = 2 ∨ sz = 3 ∨ sz = 4 ∨ sz = 5 ∨ sz = 6 := by omega
  rcases this with rfl | rfl | rfl | rfl | rfl | rfl
  · exact ⟨2, by decide, by decide, by decide⟩
  · exact ⟨4, by decide, by decide, by decide⟩
  · exact ⟨8, by decide, by decide, by decide⟩
  · exact ⟨16, by decide, by decide, by decide⟩
  · exact ⟨32, by decide, by decide, by decide⟩
  · exact ⟨64, by decide, by decide, by decide⟩

set_option maxRecDepth 100000 in
set_option maxHeartbeats 4000000 in
theorem comm_impl (w : World) (sz k : Int) (a : Option Addr) (c : Nat) (bs : List (Int × Int)) (hR : RdP w a bs) :
    Calls Try.prog 15 #[.agg #[.int .i64 sz, .slice a bs.length c], .int .i64 k] w fun e w' => ∃ v, e = .returned v ∧ OwnI w' w.heap.size v (commOf sz bs k) ∧ Ext w w' := by
  have q0 := new0 w (.int .i64 sz) [.slice a bs.length c] 25
  have q1 := new1 w (.int .i64 sz) (.slice a bs.length c) [] 25
  cases h1 : appOk sz bs
  · go_enter Try.func15, Try.ntmps15
    go_wp2_with (go_at_call 16; refine (ok_impl _ _ _ _ _ (hR.ext (by repeat (first | exact Ext.refl _ | assumption | refine Ext.alloc ?_ _ | refine Ext.drew ?_ | refine Ext.trans ?_ (by assumption))))).mono ?_; rintro e w1 ⟨rfl, hw1⟩; have q0 := Ext.keep (w' := w1) (by repeat (first | exact Ext.refl _ | assumption | refine Ext.alloc ?_ _ | refine Ext.drew ?_ | refine Ext.trans ?_ (by assumption))) q0; have q1 := Ext.keep (w' := w1) (by repeat (first | exact Ext.refl _ | assumption | refine Ext.alloc ?_ _ | refine Ext.drew ?_ | refine Ext.trans ?_ (by assumption))) q1)
    go_ret
    exact ⟨_, rfl, by simp [commOf, h1]; exact OwnI.nil _ _, (by repeat (first | exact Ext.refl _ | assumption | refine Ext.alloc ?_ _ | refine Ext.drew ?_ | refine Ext.trans ?_ (by assumption)))⟩
  cases h2 : inR k 1 sz
  · go_enter Try.func15, Try.ntmps15
    go_wp2_with (first | (go_at_call 16; refine (ok_impl _ _ _ _ _ (hR.ext (by repeat (first | exact Ext.refl _ | assumption | refine Ext.alloc ?_ _ | refine Ext.drew ?_ | refine Ext.trans ?_ (by assumption))))).mono ?_; rintro e w1 ⟨rfl, hw1⟩; have q0 := Ext.keep (w' := w1) (by repeat (first | exact Ext.refl _ | assumption | refine Ext.alloc ?_ _ | refine Ext.drew ?_ | refine Ext.trans ?_ (by assumption))) q0; have q1 := Ext.keep (w' := w1) (by repeat (first | exact Ext.refl _ | assumption | refine Ext.alloc ?_ _ | refine Ext.drew ?_ | refine Ext.trans ?_ (by assumption))) q1) | (go_at_call 94; refine (in_impl _ _ _ _).mono ?_; rintro e w1 ⟨rfl, hw1⟩))
    go_ret
    exact ⟨_, rfl, by simp [commOf, h2]; exact OwnI.nil _ _, (by repeat (first | exact Ext.refl _ | assumption | refine Ext.alloc ?_ _ | refine Ext.drew ?_ | refine Ext.trans ?_ (by assumption)))⟩
  obtain ⟨hlo, hhi⟩ := ok_size h1
  obtain ⟨t, ht, t1, t64⟩ := topN hlo hhi
  have hsh : wrap64 (2 ^ sz.toNat) = (t : Int) := by rw [← IntWalk.i64_left, shl_wrap (by omega) hhi, ht]
  have HT := hide ht
  clear ht
  go_enter Try.func15, Try.ntmps15
  go_wp2_with (first | (go_at_call 16; refine (ok_impl _ _ _ _ _ (hR.ext (by repeat (first | exact Ext.refl _ | assumption | refine Ext.alloc ?_ _ | refine Ext.drew ?_ | refine Ext.trans ?_ (by assumption))))).mono ?_; rintro e w1 ⟨rfl, hw1⟩; have q0 := Ext.keep (w' := w1) (by repeat (first | exact Ext.refl _ | assumption | refine Ext.alloc ?_ _ | refine Ext.drew ?_ | refine Ext.trans ?_ (by assumption))) q0; have q1 := Ext.keep (w' := w1) (by repeat (first | exact Ext.refl _ | assumption | refine Ext.alloc ?_ _ | refine Ext.drew ?_ | refine Ext.trans ?_ (by assumption))) q1) | (go_at_call 94; refine (in_impl _ _ _ _).mono ?_; rintro e w1 ⟨rfl, hw1⟩; have q0 := Ext.keep (w' := w1) (by repeat (first | exact Ext.refl _ | assumption | refine Ext.alloc ?_ _ | refine Ext.drew ?_ | refine Ext.trans ?_ (by assumption))) q0; have q1 := Ext.keep (w' := w1) (by repeat (first | exact Ext.refl _ | assumption | refine Ext.alloc ?_ _ | refine Ext.drew ?_ | refine Ext.trans ?_ (by assumption))) q1))
  have hw : Ext w w1 := (by repeat (first | exact Ext.refl _ | assumption | refine Ext.alloc ?_ _ | refine Ext.drew ?_ | refine Ext.trans ?_ (by assumption)))
  obtain ⟨W0, rfl⟩ : ∃ W0 : World, W0 = w1 := ⟨_, rfl⟩
  simp only [hsh]
  go_loopw [5, 6, 20] (fun v _ i wr => ∃ m : Nat, m ≤ t ∧ i = .int .i64 m ∧ OwnI wr W0.heap.size v (commTo m k) ∧ Ext W0 wr) (fun _ _ i _ => t - (intOf i).toNat)
  case atStart => exact ⟨0, Nat.zero_le _, rfl, OwnI.nil _ _, Ext.refl _⟩
  case round =>
    obtain ⟨m, hm, rfl, hown, hwr⟩ := hrel
    have hlen := commTo_len m k
    by_cases hlt : m < t
    · have hsucc := commTo_succ m k
      have HS := hide hsucc
      clear hsucc
      by_cases hc : cntTo (m : Int) 6 = k
      · have hcb : (cntTo (m : Int) 6 == k) = true := by simpa using hc
        have HC := hide hc
        clear hc
        go_wp2_with (first | (go_at_call 23; refine (size_impl _ _ (by omega) (by omega)).mono ?_; rintro e w1 ⟨rfl, hw1⟩) | (at_builtin; refine wpList_appI W0 _ rfl _ _ rfl _ (commTo m k) _ rfl (hown.ext (by repeat (first | exact Ext.refl _ | assumption | refine Ext.alloc ?_ _ | refine Ext.drew ?_ | refine Ext.trans ?_ (by assumption)))) (by repeat (first | exact Ext.refl _ | assumption | refine Ext.alloc ?_ _ | refine Ext.drew ?_ | refine Ext.trans ?_ (by assumption))) rfl (by omega) ?_; intro v' w3 hown3 hw3))
        exact ⟨⟨m + 1, by omega, by go_num, by rw [HS.out, if_pos HC.out]; exact hown3, hw3⟩, by simp [intOf]; omega⟩
      · have hcb : (cntTo (m : Int) 6 == k) = false := by simpa using hc
        have HC := hide hc
        clear hc
        go_wp2_with (first | (go_at_call 23; refine (size_impl _ _ (by omega) (by omega)).mono ?_; rintro e w1 ⟨rfl, hw1⟩))
        exact ⟨⟨m + 1, by omega, by go_num, by rw [HS.out, if_neg HC.out, List.append_nil]; exact hown.ext (by repeat (first | exact Ext.refl _ | assumption | refine Ext.alloc ?_ _ | refine Ext.drew ?_ | refine Ext.trans ?_ (by assumption))), (by repeat (first | exact Ext.refl _ | assumption | refine Ext.alloc ?_ _ | refine Ext.drew ?_ | refine Ext.trans ?_ (by assumption)))⟩, by simp [intOf]; omega⟩
    · obtain rfl : m = t := by omega
      go_wp2
      go_ret
      exact ⟨_, rfl, by simp [commOf, h1, h2, HT.out]; exact hown.base hw.size, hw.trans hwr⟩

set_option maxRecDepth 100000 in
theorem commOf_len (sz k : Int) (bs : List (Int × Int)) : (commOf sz bs k).length ≤ 64 := by
  unfold commOf
  split
  · rename_i h
    have h1 : appOk sz bs = true := by simp only [Bool.and_eq_true] at h; exact h.1
    obtain ⟨hlo, hhi⟩ := ok_size h1
    have := top_le hlo hhi
    have := commTo_len (topOf sz + 1).toNat k
    omega
  · simp

/-- The first of a list with the greatest worth. -/
def bestStep (f : Int → Int) (b : Option Int) (x : Int) : Option Int := match b with | none => some x | some y => if f y < f x then some x else some y
def bestO (f : Int → Int) (xs : List Int) : Option Int := xs.foldl (bestStep f) none
set_option maxRecDepth 100000 in
theorem bestO_at {f : Int → Int} {xs : List Int} {k : Nat} {x : Int} (hx : xs[k]? = some x) : bestO f (xs.take (k + 1)) = bestStep f (bestO f (xs.take k)) x := by
  rw [take_at hx]; simp [bestO, List.foldl_append]
set_option maxRecDepth 100000 in
theorem bestO_congr {f g : Int → Int} {xs : List Int} (h : ∀ x ∈ xs, f x = g x) : bestO f xs = bestO g xs ∧ ∀ y, bestO f xs = some y → y ∈ xs := by
  have key : ∀ (xs : List Int) (b : Option Int), (∀ x ∈ xs, f x = g x) → (∀ y, b = some y → f y = g y) → xs.foldl (bestStep f) b = xs.foldl (bestStep g) b := by
    intro xs
    induction xs with
    | nil => intro b _ _; rfl
    | cons x xs ih =>
      intro b h hb
      simp only [List.foldl_cons]
      have hx := h x (by simp)
      have e : bestStep f b x = bestStep g b x := by
        cases b with
        | none => rfl
        | some y => simp only [bestStep, hx, hb y rfl]
      rw [e]
      refine ih _ (fun z hz => h z (by simp [hz])) (fun y hy => ?_)
      cases b with
      | none => simp only [bestStep] at hy; injection hy with hy; subst hy; exact hx
      | some z =>
        simp only [bestStep] at hy
        split at hy <;> (injection hy with hy; subst hy)
        · exact hx
        · exact hb _ rfl
  have mem : ∀ (xs : List Int) (b : Option Int) (S : List Int), (∀ x ∈ xs, x ∈ S) → (∀ y, b = some y → y ∈ S) → ∀ y, xs.foldl (bestStep f) b = some y → y ∈ S := by
    intro xs
    induction xs with
    | nil => intro b S _ hb y hy; exact hb y hy
    | cons x xs ih =>
      intro b S h hb y hy
      simp only [List.foldl_cons] at hy
      refine ih _ S (fun z hz => h z (by simp [hz])) (fun z hz => ?_) y hy
      cases b with
      | none => simp only [bestStep] at hz; injection hz with hz; subst hz; exact h _ (by simp)
      | some u =>
        simp only [bestStep] at hz
        split at hz <;> (injection hz with hz; subst hz)
        · exact h _ (by simp)
        · exact hb _ rfl
  exact ⟨key xs none h (fun _ h => by cases h), mem xs none xs (fun _ h => h) (fun _ h => by cases h)⟩
set_option maxRecDepth 100000 in
theorem bestO_none {f : Int → Int} {xs : List Int} (h : bestO f xs = none) : xs = [] := by
  cases xs with
  | nil => rfl
  | cons x xs =>
    exfalso
    have key : ∀ (xs : List Int) (b : Int), xs.foldl (bestStep f) (some b) ≠ none := by
      intro xs
      induction xs with
      | nil => intro b h; cases h
      | cons x xs ih =>
        intro b
        simp only [List.foldl_cons, bestStep]
        split <;> exact ih _
    exact key xs x h

set_option maxRecDepth 100000 in
set_option maxHeartbeats 4000000 in
theorem bestOf_impl (K : Nat) (fst cap : Array Value) (f : Int → Int) (w : World) (v : Value) (B : Nat) (xs : List Int) (hV : RdB w B v xs) (hl : xs.length ≤ 2000000) (hK : Enters Try.prog K)
    (hf : ∀ (x : Int) (w' : World), x ∈ xs → Ext w w' → Calls Try.prog K (fst.push (.int .i64 x) ++ cap) w' fun e w'' => e = .returned (.int .i64 (f x)) ∧ Ext w' w'') :
    Calls Try.prog 89 #[v, .func (.func K) fst cap] w fun e w' => e = .returned (.int .i64 ((bestO f xs).getD 0)) ∧ Ext w w' := by
  obtain ⟨a, c, rfl, hR, _⟩ := hV
  unfold Enters at hK
  have HF := hide hf
  clear hf
  go_enter Try.func89, Try.ntmps89
  go_wp2_with fail
  go_loopw [5, 6, 7, 10] (fun p _ _ i wr => ∃ k : Nat, k ≤ xs.length ∧ i = .int .i64 k ∧ Ext w wr ∧
    ((p = .int .i64 (-1) ∧ bestO f (xs.take k) = none) ∨ ∃ (j : Nat) (y : Int), p = .int .i64 j ∧ xs[j]? = some y ∧ bestO f (xs.take k) = some y)) (fun _ _ _ i _ => xs.length - (intOf i).toNat)
  case atStart => exact ⟨0, Nat.zero_le _, rfl, Ext.refl _, .inl ⟨rfl, rfl⟩⟩
  case round =>
    obtain ⟨k, hk, rfl, hwr, hp⟩ := hrel
    by_cases hlt : k < xs.length
    · obtain ⟨x, hx⟩ := at_of_lt hlt
      rcases hp with ⟨rfl, hb⟩ | ⟨j, y, rfl, hy, hb⟩
      · obtain ⟨b, off, rfl, c0⟩ := (hR.ext hwr).at_ hx
        have HX := hide hx
        have HB := hide hb
        clear hx hb
        go_wp2
        refine wp_region_X (by kernel_rfl) (by kernel_rfl) ?_
        repeat' (refine wpX_stepQ (fun K hK => ?_)
                 go_simp
                 try (rw [if_neg (by intro h; simp [undef] at h)])
                 try split
                 all_goals
                   first
                   | (refine hK _ ?_
                      clear hK K)
                   | (apply Exists.intro
                      refine ⟨fun wq hwq => ?_, hK _ ?_⟩
                      · have hcq := hwq.cellS
                        go_simp
                        first
                        | exact ⟨Ext.refl _, rfl⟩
                      clear hK K))
        refine wpX_nil (fun wz hwz => ?_)
        go_wp2
        exact ⟨⟨k + 1, by omega, by go_num, (by repeat (first | exact Ext.refl _ | assumption | refine Ext.alloc ?_ _ | refine Ext.drew ?_ | refine Ext.trans ?_ (by assumption))), .inr ⟨k, x, rfl, HX.out, by rw [bestO_at HX.out, HB.out]; rfl⟩⟩, by simp [intOf]; omega⟩
      · obtain ⟨b, off, rfl, hcs⟩ := (hR.ext hwr) (ne_of_at hx)
        have c0 := hcs k x hx
        have c1 := hcs j y hy
        have hj := lt_of_at hy
        have HX := hide hx
        have HY := hide hy
        have HB := hide hb
        clear hx hb hy hcs
        cases hgt : decide (f y < f x)
        · go_wp2
          refine wp_region_X (by kernel_rfl) (by kernel_rfl) ?_
          repeat' (refine wpX_stepQ (fun K hK => ?_)
                   go_simp
                   try (rw [if_neg (by intro h; simp [undef] at h)])
                   try split
                   all_goals
                     first
                     | (refine hK _ ?_
                        clear hK K)
                     | (apply Exists.intro
                        refine ⟨fun wq hwq => ?_, hK _ ?_⟩
                        · have hcq := hwq.cellS
                          go_simp
                          first
                          | exact ⟨Ext.refl _, rfl⟩
                          | exact ⟨Ext.refl _, HF.out x _ (List.mem_of_getElem? HX.out) (by repeat (first | exact Ext.refl _ | assumption | refine Ext.alloc ?_ _ | refine Ext.drew ?_ | refine Ext.trans ?_ (by assumption)))⟩
                          | exact ⟨Ext.refl _, HF.out y _ (List.mem_of_getElem? HY.out) (by repeat (first | exact Ext.refl _ | assumption | refine Ext.alloc ?_ _ | refine Ext.drew ?_ | refine Ext.trans ?_ (by assumption)))⟩
                        clear hK K))
          refine wpX_nil (fun wz hwz => ?_)
          go_wp2
          refine ⟨⟨k + 1, by omega, by go_num, (by repeat (first | exact Ext.refl _ | assumption | refine Ext.alloc ?_ _ | refine Ext.drew ?_ | refine Ext.trans ?_ (by assumption))), .inr ⟨j, y, rfl, HY.out, ?_⟩⟩, by simp [intOf]; omega⟩
          rw [bestO_at HX.out, HB.out]
          simp only [bestStep]
          rw [if_neg (of_decide_eq_false hgt)]
        · go_wp2
          refine wp_region_X (by kernel_rfl) (by kernel_rfl) ?_
          repeat' (refine wpX_stepQ (fun K hK => ?_)
                   go_simp
                   try (rw [if_neg (by intro h; simp [undef] at h)])
                   try split
                   all_goals
                     first
                     | (refine hK _ ?_
                        clear hK K)
                     | (apply Exists.intro
                        refine ⟨fun wq hwq => ?_, hK _ ?_⟩
                        · have hcq := hwq.cellS
                          go_simp
                          first
                          | exact ⟨Ext.refl _, rfl⟩
                          | exact ⟨Ext.refl _, HF.out x _ (List.mem_of_getElem? HX.out) (by repeat (first | exact Ext.refl _ | assumption | refine Ext.alloc ?_ _ | refine Ext.drew ?_ | refine Ext.trans ?_ (by assumption)))⟩
                          | exact ⟨Ext.refl _, HF.out y _ (List.mem_of_getElem? HY.out) (by repeat (first | exact Ext.refl _ | assumption | refine Ext.alloc ?_ _ | refine Ext.drew ?_ | refine Ext.trans ?_ (by assumption)))⟩
                        clear hK K))
          refine wpX_nil (fun wz hwz => ?_)
          go_wp2
          refine ⟨⟨k + 1, by omega, by go_num, (by repeat (first | exact Ext.refl _ | assumption | refine Ext.alloc ?_ _ | refine Ext.drew ?_ | refine Ext.trans ?_ (by assumption))), .inr ⟨k, x, rfl, HX.out, ?_⟩⟩, by simp [intOf]; omega⟩
          rw [bestO_at HX.out, HB.out]
          simp only [bestStep]
          rw [if_pos (of_decide_eq_true hgt)]
    · obtain rfl : k = xs.length := by omega
      rw [List.take_length] at hp
      rcases hp with ⟨rfl, hb⟩ | ⟨j, y, rfl, hy, hb⟩
      · have HB := hide hb
        clear hb
        go_wp2
        go_ret
        exact ⟨ret_int (by rw [HB.out]; rfl), hwr⟩
      · obtain ⟨b, off, rfl, c1⟩ := (hR.ext hwr).at_ hy
        have hj := lt_of_at hy
        have HB := hide hb
        clear hb hy
        go_wp2
        go_ret
        exact ⟨ret_int (by rw [HB.out]; rfl), hwr⟩

end Go.Proofs.Ythiojkpoeejkaaa
