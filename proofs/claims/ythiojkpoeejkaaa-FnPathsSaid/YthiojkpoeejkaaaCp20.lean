/- Eliminations of the reference. The orders of elimination, on both sides. The orders of elimination of the three rules. Pairs that are kept as long as they make no cycle, and the order that they give (plain law). -/
import Derived.Test.YthiojkpoeejkaaaCp19
import Derived.Test.YthiojkpoeejkaaaCp7
namespace Go.Proofs.Ythiojkpoeejkaaa
open Go.RowKit

def numC (out : List Int) (x : Int) (last : Bool) (r : List Int) (b : Nat) : Bool := (((b : Int) == x) || hasI out b) || (prefB r x b != last)
def numP (n : Nat) (out : List Int) (x : Int) (last : Bool) (r : List Int) : Bool := allN n (numC out x last r)

set_option maxRecDepth 100000 in
theorem num_first {n : Nat} {vs : List Vt} (hS : SmallV n vs) {x : Nat} (hx : x < n) (out : List Int) : sumV (numP n out x false) vs = worF vs (leftL n out) x := by
  unfold worF
  refine sumV_congr fun v hv => ?_
  have hr := (hS.2 v hv).1
  unfold numP fsP
  rw [Bool.eq_iff_iff, allN_iff, Bool.not_eq_true', List.any_eq_false]
  constructor
  · intro h b hb
    obtain ⟨i, hi, hio, rfl⟩ := leftL_mem.1 hb
    have h1 := h i hi
    have h2 : hasI out (i : Int) = false := by
      cases h3 : hasI out (i : Int)
      · rfl
      · exact absurd (hasI_iff.1 h3) hio
    by_cases e : i = x
    · subst e; rw [pref_self]; simp
    · rw [pref_tot hr hi hx e]
      have h4 : ((i : Int) == (x : Int)) = false := by simp; omega
      simp only [numC, h2, h4] at h1
      simp at h1
      simp [h1]
  · intro h i hi
    unfold numC
    by_cases e : i = x
    · subst e; simp
    · cases h3 : hasI out (i : Int)
      · have h1 := h (i : Int) (leftL_mem.2 ⟨i, hi, (fun h4 => by rw [hasI_iff.2 h4] at h3; cases h3), rfl⟩)
        rw [pref_tot hr hi hx e] at h1
        simp at h1
        simp [h1]
      · simp
set_option maxRecDepth 100000 in
theorem num_last {n : Nat} {vs : List Vt} {x : Nat} (out : List Int) : sumV (numP n out x true) vs = sumV (lsP (leftL n out) x) vs := by
  refine sumV_congr fun v hv => ?_
  unfold numP lsP
  rw [Bool.eq_iff_iff, allN_iff, Bool.not_eq_true', List.any_eq_false]
  constructor
  · intro h b hb
    obtain ⟨i, hi, hio, rfl⟩ := leftL_mem.1 hb
    have h1 := h i hi
    have h2 : hasI out (i : Int) = false := by
      cases h3 : hasI out (i : Int)
      · rfl
      · exact absurd (hasI_iff.1 h3) hio
    by_cases e : i = x
    · subst e; rw [pref_self]; simp
    · have h4 : ((i : Int) == (x : Int)) = false := by simp; omega
      simp only [numC, h2, h4] at h1
      simp at h1
      simp [h1]
  · intro h i hi
    unfold numC
    cases h3 : hasI out (i : Int)
    · have h1 := h (i : Int) (leftL_mem.2 ⟨i, hi, (fun h4 => by rw [hasI_iff.2 h4] at h3; cases h3), rfl⟩)
      simp at h1
      simp [h1]
    · simp

def sumO (vs : List Vt) (out : List Int) (x : Int) : Nat → Int
  | 0 => 0
  | k + 1 => sumO vs out x k + if !((k : Int) == x) && !hasI out k then pairV vs x k else 0
set_option maxRecDepth 100000 in
theorem sumO_bd {sz : Int} {vs : List Vt} (hS : SmallV sz vs) (out : List Int) (x : Int) : ∀ k : Nat, 0 ≤ sumO vs out x k ∧ sumO vs out x k ≤ 24000 * k
  | 0 => by simp [sumO]
  | k + 1 => by
    have h1 := sumO_bd hS out x k
    have h2 : 0 ≤ pairV vs x k ∧ pairV vs x k ≤ 24000 := sumV_bd' hS
    unfold sumO
    split <;> omega
set_option maxRecDepth 100000 in
theorem pair_self (vs : List Vt) (x : Int) : pairV vs x x = 0 := by
  unfold pairV
  rw [sumV_congr (q := fun _ => false) (fun v _ => pref_self _ _), sumV_none]
set_option maxRecDepth 100000 in
theorem sumO_left (vs : List Vt) (out : List Int) (x : Int) : ∀ k : Nat, sumO vs out x k = worP vs (leftL k out) x
  | 0 => rfl
  | k + 1 => by
    have e : leftL (k + 1) out = leftL k out ++ if notIn out k then [(k : Int)] else [] := upL_succ k (notIn out)
    rw [sumO, sumO_left vs out x k, e]
    unfold worP notIn
    rw [List.map_append, List.sum_append]
    cases h1 : hasI out (k : Int)
    · by_cases h2 : (k : Int) = x
      · subst h2; simp [pair_self]
      · simp [h2]
    · simp

/-- The worth by kind: first places, last places, pairs. -/
def worK (vs : List Vt) (kind : Nat) : List Int → Int → Int := if kind = 0 then worF vs else if kind = 1 then worL vs else worP vs

set_option maxRecDepth 100000 in
theorem OwnI.formR' {w : World} {B : Nat} {u : Value} {xs : List Int} (h : OwnI w B u xs) : ∃ a n c, u = .slice a n c ∧ n = xs.length ∧ RdI w a xs := by
  obtain ⟨a, c, rfl, _, _, hR, _⟩ := h.val
  exact ⟨_, _, _, rfl, rfl, hR⟩
set_option maxRecDepth 100000 in
theorem pick_nat {n : Nat} {f : Int → Int} {q : Nat → Bool} {i : Nat} (hi : i ≤ n) (hne : upL i q ≠ []) : ∃ p : Nat, p < n ∧ pickV f (upL i q) = p := by
  have h := pickV_mem (f := f) hne
  obtain ⟨p, hp, _, e⟩ := upL_mem.1 h
  exact ⟨p, by omega, e⟩

def p0 (x : List Int) : Int := x.getD 0 0
def p1 (x : List Int) : Int := x.getD 1 0
/-- Kept pairs lead from a to b. -/
inductive ReachL (kept : List (List Int)) : Int → Int → Prop
  | refl (a : Int) : ReachL kept a a
  | step {b : Int} (x : List Int) (hx : x ∈ kept) (h : ReachL kept (p1 x) b) : ReachL kept (p0 x) b
set_option maxRecDepth 100000 in
theorem ReachL.snoc {kept : List (List Int)} {a b : Int} (h : ReachL kept a b) : ∀ {x : List Int}, x ∈ kept → p0 x = b → ReachL kept a (p1 x) := by
  induction h with
  | refl a => intro x hx e; exact e ▸ ReachL.step x hx (ReachL.refl _)
  | step y hy _ ih => intro x hx e; exact ReachL.step y hy (ih hx e)
set_option maxRecDepth 100000 in
theorem ReachL.mono {kept kept' : List (List Int)} (hk : ∀ x ∈ kept, x ∈ kept') {a b : Int} (h : ReachL kept a b) : ReachL kept' a b := by
  induction h with
  | refl a => exact ReachL.refl a
  | step y hy _ ih => exact ReachL.step y (hk y hy) ih
noncomputable def wayB (kept : List (List Int)) (a b : Int) : Bool := @decide (ReachL kept a b) (Classical.propDecidable _)
set_option maxRecDepth 100000 in
theorem wayB_iff {kept : List (List Int)} {a b : Int} : wayB kept a b = true ↔ ReachL kept a b := by
  unfold wayB; exact @decide_eq_true_iff _ (Classical.propDecidable _)
set_option maxRecDepth 100000 in
theorem wayB_no {kept : List (List Int)} {a b : Int} : wayB kept a b = false ↔ ¬ ReachL kept a b := by
  rw [← wayB_iff]; simp
set_option maxRecDepth 100000 in
theorem wayB_self (kept : List (List Int)) (a : Int) : wayB kept a a = true := wayB_iff.2 (ReachL.refl a)
set_option maxRecDepth 100000 in
/-- One step of the way, taken or not. -/
theorem wayB_step {kept : List (List Int)} {a b : Int} (hne : a ≠ b) : wayB kept a b = kept.any (fun x => decide (p0 x = a) && wayB kept (p1 x) b) := by
  rw [Bool.eq_iff_iff, wayB_iff, List.any_eq_true]
  constructor
  · intro h
    cases h with
    | refl => exact absurd rfl hne
    | step x hx h => exact ⟨x, hx, by simp [wayB_iff.2 h]⟩
  · rintro ⟨x, hx, h⟩
    simp only [Bool.and_eq_true, decide_eq_true_eq] at h
    have := ReachL.step x hx (wayB_iff.1 h.2)
    rw [h.1] at this
    exact this
set_option maxRecDepth 100000 in
/-- A set with a that no kept pair leaves holds all that can be reached. -/
theorem reach_in {kept : List (List Int)} {seen : List Int} (hc : ∀ x ∈ kept, p0 x ∈ seen → p1 x ∈ seen) {a b : Int} (h : ReachL kept a b) : a ∈ seen → b ∈ seen := by
  induction h with
  | refl a => exact id
  | step y hy _ ih => exact fun ha => ih (hc y hy ha)

/-- A number for each candidate that falls along each pair. -/
def Ranked (kept : List (List Int)) : Prop := ∃ r : Int → Nat, ∀ x ∈ kept, r (p1 x) < r (p0 x)
set_option maxRecDepth 100000 in
theorem Ranked.nil : Ranked [] := ⟨fun _ => 0, fun x h => by simp at h⟩
set_option maxRecDepth 100000 in
theorem Ranked.add {kept : List (List Int)} (h : Ranked kept) {x : List Int} (hx : wayB kept (p1 x) (p0 x) = false) : Ranked (kept ++ [x]) := by
  obtain ⟨r, hr⟩ := h
  refine ⟨fun y => r y + if wayB kept y (p0 x) = true then r (p1 x) + 1 else 0, fun y hy => ?_⟩
  rcases List.mem_append.1 hy with hy | hy
  · have h1 := hr y hy
    show r (p1 y) + (if wayB kept (p1 y) (p0 x) = true then r (p1 x) + 1 else 0) < r (p0 y) + (if wayB kept (p0 y) (p0 x) = true then r (p1 x) + 1 else 0)
    by_cases h2 : wayB kept (p1 y) (p0 x) = true
    · rw [if_pos h2, if_pos (wayB_iff.2 (ReachL.step y hy (wayB_iff.1 h2)))]; omega
    · rw [if_neg h2]; split <;> omega
  · simp at hy
    subst hy
    show r (p1 y) + (if wayB kept (p1 y) (p0 y) = true then r (p1 y) + 1 else 0) < r (p0 y) + (if wayB kept (p0 y) (p0 y) = true then r (p1 y) + 1 else 0)
    rw [if_neg (by rw [hx]; decide), if_pos (wayB_self _ _)]; omega

noncomputable def lockS (out : List (List Int)) (x : List Int) : List (List Int) := if wayB out (p1 x) (p0 x) = true then out else out ++ [x]
noncomputable def lockL (xss : List (List Int)) : List (List Int) := xss.foldl lockS []
set_option maxRecDepth 100000 in
theorem lockL_at {xss : List (List Int)} {k : Nat} {x : List Int} (h : xss[k]? = some x) : lockL (xss.take (k + 1)) = lockS (lockL (xss.take k)) x := by
  rw [take_at h]; simp [lockL]
set_option maxRecDepth 100000 in
theorem lockL_ranked (xss : List (List Int)) : ∀ k, k ≤ xss.length → Ranked (lockL (xss.take k))
  | 0, _ => Ranked.nil
  | k + 1, hk => by
    obtain ⟨x, hx⟩ := at_of_lt (xs := xss) (k := k) (by omega)
    have ih := lockL_ranked xss k (by omega)
    rw [lockL_at hx]
    unfold lockS
    by_cases h : wayB (lockL (xss.take k)) (p1 x) (p0 x) = true
    · rw [if_pos h]; exact ih
    · rw [if_neg h]; exact ih.add (by simpa using h)
set_option maxRecDepth 100000 in
theorem lockL_mem (xss : List (List Int)) : ∀ k, k ≤ xss.length → ∀ y ∈ lockL (xss.take k), y ∈ xss
  | 0, _, y, h => by simp [lockL] at h
  | k + 1, hk, y, h => by
    obtain ⟨x, hx⟩ := at_of_lt (xs := xss) (k := k) (by omega)
    have ih := lockL_mem xss k (by omega)
    rw [lockL_at hx] at h
    unfold lockS at h
    split at h
    · exact ih y h
    · rcases List.mem_append.1 h with h | h
      · exact ih y h
      · simp at h; subst h; exact List.mem_of_getElem? hx
set_option maxRecDepth 100000 in
theorem lockL_len (xss : List (List Int)) : ∀ k, k ≤ xss.length → (lockL (xss.take k)).length ≤ k
  | 0, _ => by simp [lockL]
  | k + 1, hk => by
    obtain ⟨x, hx⟩ := at_of_lt (xs := xss) (k := k) (by omega)
    have ih := lockL_len xss k (by omega)
    rw [lockL_at hx]
    unfold lockS
    split
    · omega
    · rw [List.length_append]; simp; omega

/-- No pair leads to a from one that is left. -/
def freeB (kept : List (List Int)) (left : List Int) (a : Int) : Bool := !kept.any (fun x => (p1 x == a) && hasI left (p0 x))
def nextQ (kept : List (List Int)) (n : Nat) (out : List Int) (i : Nat) : Bool := notIn out i && freeB kept (leftL n out) i
def nextV (kept : List (List Int)) (n : Nat) (out : List Int) : Int := match (List.range n).find? (nextQ kept n out) with | some i => (i : Int) | none => 0
def prL (kept : List (List Int)) (n : Nat) : Nat → List Int
  | 0 => []
  | k + 1 => prL kept n k ++ [nextV kept n (prL kept n k)]
set_option maxRecDepth 100000 in
theorem prL_len (kept : List (List Int)) (n : Nat) : ∀ k, (prL kept n k).length = k
  | 0 => rfl
  | k + 1 => by rw [prL, List.length_append, prL_len kept n k]; rfl
set_option maxRecDepth 100000 in
theorem max_rank (r : Int → Nat) : ∀ {xs : List Int}, xs ≠ [] → ∃ y ∈ xs, ∀ z ∈ xs, r z ≤ r y
  | [], h => absurd rfl h
  | [x], _ => ⟨x, by simp, fun z hz => by simp at hz; subst hz; exact Nat.le_refl _⟩
  | x :: y :: ys, _ => by
    obtain ⟨m, hm, hr⟩ := max_rank r (xs := y :: ys) (by simp)
    by_cases h : r m ≤ r x
    · refine ⟨x, by simp, fun z hz => ?_⟩
      rcases List.mem_cons.1 hz with rfl | hz
      · exact Nat.le_refl _
      · exact Nat.le_trans (hr z hz) h
    · refine ⟨m, List.mem_cons_of_mem _ hm, fun z hz => ?_⟩
      rcases List.mem_cons.1 hz with rfl | hz
      · omega
      · exact hr z hz
set_option maxRecDepth 100000 in
theorem next_some {kept : List (List Int)} {n : Nat} {out : List Int} (hr : Ranked kept) (hne : leftL n out ≠ []) :
    ∃ i : Nat, i < n ∧ nextQ kept n out i = true ∧ (∀ j, j < i → nextQ kept n out j = false) ∧ nextV kept n out = i := by
  obtain ⟨r, hr⟩ := hr
  obtain ⟨a, ha, hmax⟩ := max_rank r hne
  obtain ⟨i, hi, hno, rfl⟩ := leftL_mem.1 ha
  have hq : nextQ kept n out i = true := by
    unfold nextQ
    have h1 : notIn out i = true := by
      unfold notIn
      cases h : hasI out (i : Int)
      · rfl
      · exact absurd (hasI_iff.1 h) hno
    have h2 : freeB kept (leftL n out) i = true := by
      unfold freeB
      cases h : kept.any (fun x => (p1 x == (i : Int)) && hasI (leftL n out) (p0 x))
      · rfl
      · obtain ⟨x, hx, h⟩ := List.any_eq_true.1 h
        simp only [Bool.and_eq_true, beq_iff_eq] at h
        have h3 := hr x hx
        have h4 := hmax _ (hasI_iff.1 h.2)
        rw [h.1] at h3
        omega
    rw [h1, h2]; rfl
  cases hf : (List.range n).find? (nextQ kept n out) with
  | none =>
    rw [List.find?_eq_none] at hf
    exact absurd hq (hf i (List.mem_range.2 hi))
  | some k =>
    have hv : nextV kept n out = k := by unfold nextV; rw [hf]
    rw [List.find?_range_eq_some] at hf
    exact ⟨k, List.mem_range.1 hf.2.1, hf.1, fun j hj => by simpa using hf.2.2 j hj, hv⟩
set_option maxRecDepth 100000 in
theorem next_at {kept : List (List Int)} {n : Nat} {out : List Int} {i : Nat} (hi : i < n) (hq : nextQ kept n out i = true) (hno : ∀ j, j < i → nextQ kept n out j = false) : nextV kept n out = i := by
  have : (List.range n).find? (nextQ kept n out) = some i := by
    rw [List.find?_range_eq_some]
    exact ⟨hq, List.mem_range.2 hi, fun j hj => by simp [hno j hj]⟩
  unfold nextV; rw [this]
set_option maxRecDepth 100000 in
/-- Where the next one stands among those that are left. -/
theorem next_left {kept : List (List Int)} {n : Nat} {out : List Int} (hr : Ranked kept) (hne : leftL n out ≠ []) :
    ∃ k : Nat, findI (freeB kept (leftL n out)) (leftL n out) = k ∧ (leftL n out)[k]? = some (nextV kept n out) := by
  obtain ⟨i, hi, hq, hno, hv⟩ := next_some hr hne
  have hq' := hq
  unfold nextQ at hq'
  rw [Bool.and_eq_true] at hq'
  have hm : (i : Int) ∈ leftL n out := leftL_mem.2 ⟨i, hi, (fun h => by
    have h1 := hasI_iff.2 h
    have h2 := hq'.1
    unfold notIn at h2
    rw [h1] at h2; cases h2), rfl⟩
  have hs : leftL n out = leftL i out ++ (leftL n out).drop (leftL i out).length := by
    have key : ∀ d, leftL (i + d) out = leftL i out ++ (leftL (i + d) out).drop (leftL i out).length := by
      intro d
      induction d with
      | zero => simp
      | succ d ih =>
        have e : leftL (i + (d + 1)) out = leftL (i + d) out ++ if notIn out (i + d) then [((i + d : Nat) : Int)] else [] := upL_succ (i + d) (notIn out)
        rw [e]
        rw [ih]
        simp [List.append_assoc]
    have := key (n - i)
    rwa [show i + (n - i) = n by omega] at this
  have hat : (leftL n out)[(leftL i out).length]? = some (i : Int) := by
    have h1 : ∀ d, 1 ≤ d → (leftL (i + d) out)[(leftL i out).length]? = some (i : Int) := by
      intro d
      induction d with
      | zero => intro h; omega
      | succ d ih =>
        intro _
        have e : leftL (i + (d + 1)) out = leftL (i + d) out ++ if notIn out (i + d) then [((i + d : Nat) : Int)] else [] := upL_succ (i + d) (notIn out)
        rw [e]
        by_cases hd : d = 0
        · subst hd
          rw [Nat.add_zero, hq'.1, List.getElem?_append_right (Nat.le_refl _)]
          simp
        · have h2 := ih (by omega)
          rw [List.getElem?_append_left (lt_of_at h2)]
          exact h2
    have := h1 (n - i) (by omega)
    rwa [show i + (n - i) = n by omega] at this
  refine ⟨(leftL i out).length, ?_, by rw [hv]; exact hat⟩
  refine findI_some hat ?_ hq'.2
  rw [List.all_eq_true]
  intro y hy
  rw [hs, List.take_left'] at hy
  · obtain ⟨j, hj, hjo, rfl⟩ := leftL_mem.1 hy
    have h1 := hno j hj
    unfold nextQ at h1
    have h2 : notIn out j = true := by
      unfold notIn
      cases h : hasI out (j : Int)
      · rfl
      · exact absurd (hasI_iff.1 h) hjo
    rw [h2, Bool.true_and] at h1
    rw [h1]; rfl
  · rfl
set_option maxRecDepth 100000 in
/-- One that is left has been taken out. -/
theorem leftL_prL {kept : List (List Int)} {n : Nat} (hr : Ranked kept) : ∀ k, k ≤ n → (leftL n (prL kept n k)).length = n - k
  | 0, _ => by rw [prL, leftL_nil, upL_true_len]; rfl
  | k + 1, hk => by
    have ih := leftL_prL (n := n) hr k (by omega)
    have hne : leftL n (prL kept n k) ≠ [] := fun e => by rw [e] at ih; simp at ih; omega
    obtain ⟨i, _, hi⟩ := next_left hr hne
    have hlt := lt_of_at hi
    rw [prL, ← leftL_erase hi, List.length_eraseIdx, if_pos hlt, ih]
    omega

end Go.Proofs.Ythiojkpoeejkaaa
