/- The first of some sets with the greatest worth. -/
import Derived.Test.YtdkkmhncdlaphaaScore
import Derived.Test.YtdkkmhncdlaphaaComm
namespace Go.Proofs.Ytdkkmhncdlaphaa
open Go.RowKit

/-- The first of a list with the greatest worth. -/
def bestStep (f : Int → Int) (b : Option Int) (x : Int) : Option Int := match b with | none => some x | some y => if f y < f x then some x else some y
def bestO (f : Int → Int) (xs : List Int) : Option Int := xs.foldl (bestStep f) none
theorem bestO_at {f : Int → Int} {xs : List Int} {k : Nat} {x : Int} (hx : xs[k]? = some x) : bestO f (xs.take (k + 1)) = bestStep f (bestO f (xs.take k)) x := by
  rw [take_at hx]; simp [bestO, List.foldl_append]
theorem bestO_congr {f g : Int → Int} {xs : List Int} (h : ∀ x ∈ xs, f x = g x) : bestO f xs = bestO g xs ∧ ∀ y, bestO f xs = some y → y ∈ xs := by
  have key : ∀ (xs : List Int) (b : Option Int), (∀ x ∈ xs, f x = g x) → (∀ y, b = some y → f y = g y) → xs.foldl (bestStep f) b = xs.foldl (bestStep g) b := by
    intro xs
    induction xs with
    | nil => intro b _ _; rfl
    | cons x xs ih =>
      intro b h hb
      simp only [List.foldl_cons]
      have hx := h x (by simp)
      have e : bestStep f b x = bestStep g b x := by
        cases b with
        | none => rfl
        | some y => simp only [bestStep, hx, hb y rfl]
      rw [e]
      refine ih _ (fun z hz => h z (by simp [hz])) (fun y hy => ?_)
      cases b with
      | none => simp only [bestStep] at hy; injection hy with hy; subst hy; exact hx
      | some z =>
        simp only [bestStep] at hy
        split at hy <;> (injection hy with hy; subst hy)
        · exact hx
        · exact hb _ rfl
  have mem : ∀ (xs : List Int) (b : Option Int) (S : List Int), (∀ x ∈ xs, x ∈ S) → (∀ y, b = some y → y ∈ S) → ∀ y, xs.foldl (bestStep f) b = some y → y ∈ S := by
    intro xs
    induction xs with
    | nil => intro b S _ hb y hy; exact hb y hy
    | cons x xs ih =>
      intro b S h hb y hy
      simp only [List.foldl_cons] at hy
      refine ih _ S (fun z hz => h z (by simp [hz])) (fun z hz => ?_) y hy
      cases b with
      | none => simp only [bestStep] at hz; injection hz with hz; subst hz; exact h _ (by simp)
      | some u =>
        simp only [bestStep] at hz
        split at hz <;> (injection hz with hz; subst hz)
        · exact h _ (by simp)
        · exact hb _ rfl
  exact ⟨key xs none h (fun _ h => by cases h), mem xs none xs (fun _ h => h) (fun _ h => by cases h)⟩
theorem bestO_none {f : Int → Int} {xs : List Int} (h : bestO f xs = none) : xs = [] := by
  cases xs with
  | nil => rfl
  | cons x xs =>
    exfalso
    have key : ∀ (xs : List Int) (b : Int), xs.foldl (bestStep f) (some b) ≠ none := by
      intro xs
      induction xs with
      | nil => intro b h; cases h
      | cons x xs ih =>
        intro b
        simp only [List.foldl_cons, bestStep]
        split <;> exact ih _
    exact key xs x h

set_option maxRecDepth 100000 in
set_option maxHeartbeats 4000000 in
theorem bestOf_impl (K : Nat) (fst cap : Array Value) (f : Int → Int) (w : World) (v : Value) (B : Nat) (xs : List Int) (hV : RdB w B v xs) (hl : xs.length ≤ 2000000) (hK : Enters Try.prog K)
    (hf : ∀ (x : Int) (w' : World), x ∈ xs → Ext w w' → Calls Try.prog K (fst.push (.int .i64 x) ++ cap) w' fun e w'' => e = .returned (.int .i64 (f x)) ∧ Ext w' w'') :
    Calls Try.prog 63 #[v, .func (.func K) fst cap] w fun e w' => e = .returned (.int .i64 ((bestO f xs).getD 0)) ∧ Ext w w' := by
  obtain ⟨a, c, rfl, hR, _⟩ := hV
  unfold Enters at hK
  have HF := hide hf
  clear hf
  go_enter Try.func63, Try.ntmps63
  go_wp2_with fail
  go_loopw [5, 6, 7, 10] (fun p _ _ i wr => ∃ k : Nat, k ≤ xs.length ∧ i = .int .i64 k ∧ Ext w wr ∧
    ((p = .int .i64 (-1) ∧ bestO f (xs.take k) = none) ∨ ∃ (j : Nat) (y : Int), p = .int .i64 j ∧ xs[j]? = some y ∧ bestO f (xs.take k) = some y)) (fun _ _ _ i _ => xs.length - (intOf i).toNat)
  case atStart => exact ⟨0, Nat.zero_le _, rfl, Ext.refl _, .inl ⟨rfl, rfl⟩⟩
  case round =>
    obtain ⟨k, hk, rfl, hwr, hp⟩ := hrel
    by_cases hlt : k < xs.length
    · obtain ⟨x, hx⟩ := at_of_lt hlt
      rcases hp with ⟨rfl, hb⟩ | ⟨j, y, rfl, hy, hb⟩
      · obtain ⟨b, off, rfl, c0⟩ := (hR.ext hwr).at_ hx
        have HX := hide hx
        have HB := hide hb
        clear hx hb
        go_wp2
        refine wp_region_X (by kernel_rfl) (by kernel_rfl) ?_
        repeat' (refine wpX_stepQ (fun K hK => ?_)
                 go_simp
                 try (rw [if_neg (by intro h; simp [undef] at h)])
                 try split
                 all_goals
                   first
                   | (refine hK _ ?_
                      clear hK K)
                   | (apply Exists.intro
                      refine ⟨fun wq hwq => ?_, hK _ ?_⟩
                      · have hcq := hwq.cellS
                        go_simp
                        first
                        | exact ⟨Ext.refl _, rfl⟩
                      clear hK K))
        refine wpX_nil (fun wz hwz => ?_)
        go_wp2
        exact ⟨⟨k + 1, by omega, by go_num, (by repeat (first | exact Ext.refl _ | assumption | refine Ext.alloc ?_ _ | refine Ext.drew ?_ | refine Ext.trans ?_ (by assumption))), .inr ⟨k, x, rfl, HX.out, by rw [bestO_at HX.out, HB.out]; rfl⟩⟩, by simp [intOf]; omega⟩
      · obtain ⟨b, off, rfl, hcs⟩ := (hR.ext hwr) (ne_of_at hx)
        have c0 := hcs k x hx
        have c1 := hcs j y hy
        have hj := lt_of_at hy
        have HX := hide hx
        have HY := hide hy
        have HB := hide hb
        clear hx hb hy hcs
        cases hgt : decide (f y < f x)
        · go_wp2
          refine wp_region_X (by kernel_rfl) (by kernel_rfl) ?_
          repeat' (refine wpX_stepQ (fun K hK => ?_)
                   go_simp
                   try (rw [if_neg (by intro h; simp [undef] at h)])
                   try split
                   all_goals
                     first
                     | (refine hK _ ?_
                        clear hK K)
                     | (apply Exists.intro
                        refine ⟨fun wq hwq => ?_, hK _ ?_⟩
                        · have hcq := hwq.cellS
                          go_simp
                          first
                          | exact ⟨Ext.refl _, rfl⟩
                          | exact ⟨Ext.refl _, HF.out x _ (List.mem_of_getElem? HX.out) (by repeat (first | exact Ext.refl _ | assumption | refine Ext.alloc ?_ _ | refine Ext.drew ?_ | refine Ext.trans ?_ (by assumption)))⟩
                          | exact ⟨Ext.refl _, HF.out y _ (List.mem_of_getElem? HY.out) (by repeat (first | exact Ext.refl _ | assumption | refine Ext.alloc ?_ _ | refine Ext.drew ?_ | refine Ext.trans ?_ (by assumption)))⟩
                        clear hK K))
          refine wpX_nil (fun wz hwz => ?_)
          go_wp2
          refine ⟨⟨k + 1, by omega, by go_num, (by repeat (first | exact Ext.refl _ | assumption | refine Ext.alloc ?_ _ | refine Ext.drew ?_ | refine Ext.trans ?_ (by assumption))), .inr ⟨j, y, rfl, HY.out, ?_⟩⟩, by simp [intOf]; omega⟩
          rw [bestO_at HX.out, HB.out]
          simp only [bestStep]
          rw [if_neg (of_decide_eq_false hgt)]
        · go_wp2
          refine wp_region_X (by kernel_rfl) (by kernel_rfl) ?_
          repeat' (refine wpX_stepQ (fun K hK => ?_)
                   go_simp
                   try (rw [if_neg (by intro h; simp [undef] at h)])
                   try split
                   all_goals
                     first
                     | (refine hK _ ?_
                        clear hK K)
                     | (apply Exists.intro
                        refine ⟨fun wq hwq => ?_, hK _ ?_⟩
                        · have hcq := hwq.cellS
                          go_simp
                          first
                          | exact ⟨Ext.refl _, rfl⟩
                          | exact ⟨Ext.refl _, HF.out x _ (List.mem_of_getElem? HX.out) (by repeat (first | exact Ext.refl _ | assumption | refine Ext.alloc ?_ _ | refine Ext.drew ?_ | refine Ext.trans ?_ (by assumption)))⟩
                          | exact ⟨Ext.refl _, HF.out y _ (List.mem_of_getElem? HY.out) (by repeat (first | exact Ext.refl _ | assumption | refine Ext.alloc ?_ _ | refine Ext.drew ?_ | refine Ext.trans ?_ (by assumption)))⟩
                        clear hK K))
          refine wpX_nil (fun wz hwz => ?_)
          go_wp2
          refine ⟨⟨k + 1, by omega, by go_num, (by repeat (first | exact Ext.refl _ | assumption | refine Ext.alloc ?_ _ | refine Ext.drew ?_ | refine Ext.trans ?_ (by assumption))), .inr ⟨k, x, rfl, HX.out, ?_⟩⟩, by simp [intOf]; omega⟩
          rw [bestO_at HX.out, HB.out]
          simp only [bestStep]
          rw [if_pos (of_decide_eq_true hgt)]
    · obtain rfl : k = xs.length := by omega
      rw [List.take_length] at hp
      rcases hp with ⟨rfl, hb⟩ | ⟨j, y, rfl, hy, hb⟩
      · have HB := hide hb
        clear hb
        go_wp2
        go_ret
        exact ⟨ret_int (by rw [HB.out]; rfl), hwr⟩
      · obtain ⟨b, off, rfl, c1⟩ := (hR.ext hwr).at_ hy
        have hj := lt_of_at hy
        have HB := hide hb
        clear hb hy
        go_wp2
        go_ret
        exact ⟨ret_int (by rw [HB.out]; rfl), hwr⟩
end Go.Proofs.Ytdkkmhncdlaphaa
