/- A row appended to an own matrix, with the frame told. All rankings, as the spec draws them. All rankings of the spec, from the start. All rankings, as the program draws them. Pairs of a ranking that are turned, counted by the program. The ranking in which each candidate beats all behind it, of the program. -/
import Derived.Test.YthiojkpoeejkaaaCp4
import Derived.Test.YthiojkpoeejkaaaCp13
import Derived.Test.YthiojkpoeejkaaaCp9
import Derived.Test.YthiojkpoeejkaaaCp17
import Derived.Test.YthiojkpoeejkaaaCp8
import Derived.Test.YthiojkpoeejkaaaCp6
import Derived.Test.YthiojkpoeejkaaaCp16
import Derived.Test.YthiojkpoeejkaaaCp14
import Derived.Test.YthiojkpoeejkaaaCp10
namespace Go.Proofs.Ythiojkpoeejkaaa
open Go.RowKit

set_option maxRecDepth 100000 in
theorem wpList_appSF {ops : Array Oper} {rest : List Oper} {o : Oper} {a : Act} {Q : Exit → Act → World → Prop} (W0 w0 w3 : World) (hgd : o.guard = none) (s x : Operand)
    (ho : o.op = .call { callee := .builtin .append, args := #[s, x], argTypes := #[55, 55] }) (v : Value) (xss : List (List Int)) (u : Value) (xs : List Int) (hs : a.eval s = v)
    (hown : OwnSS w0 W0.heap.size v xss) (hW0 : Ext W0 w0) (hw : Ext w0 w3) (hu : OwnI w3 w0.heap.size u xs)
    (hx : a.eval x = .slice (some ⟨w3.heap.size, 0, none⟩) 1 1) (hlen : xss.length ≤ 2000000)
    (h : ∀ v' w', OwnSS w' W0.heap.size v' (xss ++ [xs]) → Ext W0 w' → w3.grownBy w' v.ownBlock → Fresh w3 v v' → wpList Try.prog ops Q rest (a.put o.dst v') w') : wpList Try.prog ops Q (o :: rest) a (w3.alloc (.cells #[u] 29)) := by
  obtain ⟨i0, hi, hz0, hz1, hz2⟩ := info_parts info_row
  obtain ⟨cs, h1, h2, h3, h4⟩ := hown
  have h1a := ownsRow_ext h1 (hw.alloc (.cells #[u] 29))
  have hW3 : Ext W0 (w3.alloc (.cells #[u] 29)) := (hW0.trans hw).alloc _
  obtain ⟨v', w', hr, h5, h6, hfr⟩ := run_append_fresh (P := Try.prog) (w3.alloc (.cells #[u] 29)) W0.heap.size 55 o.type 29 i0 (.slice none 0 0) 1 24 Try.underlying55 hi hz0 hz1 hz2 rfl (by decide) v cs.length _ h1a ⟨w3.heap.size, 0, none⟩ 1 1 [u] rfl
    (fun j z hj => by
      match j, hj with
      | 0, hj => simp at hj; subst hj; simp [Addr.add])
    (fun z hz => by simp at hz; subst hz; exact hu.slice) (by decide) (by unfold maxLen; omega) (by omega) hW3.size
  refine wpList_plain hgd fun K hK => ?_
  unfold Oper.wp execOp
  simp only [ho, resolve, invoke, builtin, Sem.run_bind, Sem.run_pure, Result.andThen_ok, List.map_toArray, List.map_cons, List.map_nil, hs, hx, hr]
  refine hK _ _ ?_
  · have hgz : w3.grownBy w' v.ownBlock := ⟨h6.os, h6.tape, h6.output, Nat.le_trans (by simp) h6.size, fun k hk hne => (h6.block k (by simp; omega) hne).trans (Below.block (Ext.new w3 (.cells #[u] 29)) k hk)⟩
    have hfz : Fresh w3 v v' := by
      rcases hfr with hfr | hfr
      · exact .inl hfr
      · exact .inr (fun k hk => by have := hfr k hk; simp at this; omega)
    have huw := hu.ext (Ext.new w3 (.cells #[u] 29))
    refine h v' w' ⟨cs ++ [u], by simpa using h5, by simp [h2], fun j ys hy => ?_, fun i j z z' k hne hz hz' hk => ?_⟩ (hW3.grown h6 (ownsRow_block h1a)) hgz hfz
    · rcases Nat.lt_or_ge j xss.length with hlt | hge
      · rw [List.getElem?_append_left hlt] at hy
        obtain ⟨z, hz, hO⟩ := h3 j ys hy
        refine ⟨z, by rw [List.getElem?_append_left (by omega)]; exact hz, ?_⟩
        have hO' := hO.ext (hw.alloc (.cells #[u] 29))
        exact hO'.keepRow h6 (own_ne' hO' h1a)
      · rw [List.getElem?_append_right hge] at hy
        have hj : j - xss.length = 0 := by have := lt_of_at hy; simp at this; omega
        rw [hj] at hy
        simp at hy
        subst hy
        refine ⟨u, by rw [List.getElem?_append_right (by omega), h2, hj]; rfl, ?_⟩
        exact (huw.keepRow h6 (own_ne' huw h1a)).base hW0.size
    · have low : ∀ (i : Nat) (z : Value) (k : Nat), cs[i]? = some z → z.ownBlock = some k → k < w0.heap.size := fun i z k hz hk => by
        obtain ⟨ys, hy⟩ := at_of_lt (xs := xss) (k := i) (by have := lt_of_at hz; omega)
        obtain ⟨z', hz', hO⟩ := h3 i ys hy
        rw [hz] at hz'
        injection hz' with hz'
        subst hz'
        exact (World.ownsRow.lt hO k hk).2
      have new : ∀ k, u.ownBlock = some k → w0.heap.size ≤ k := fun k hk => (World.ownsRow.lt hu k hk).1
      rcases Nat.lt_or_ge i cs.length with hil | hil
      · rw [List.getElem?_append_left hil] at hz
        rcases Nat.lt_or_ge j cs.length with hjl | hjl
        · rw [List.getElem?_append_left hjl] at hz'
          exact h4 i j z z' k hne hz hz' hk
        · rw [List.getElem?_append_right hjl] at hz'
          have hj : j - cs.length = 0 := by have := lt_of_at hz'; simp at this; omega
          rw [hj] at hz'
          simp at hz'
          subst hz'
          intro e
          have := low i z k hz hk
          have := new k e
          omega
      · rw [List.getElem?_append_right hil] at hz
        have hi0 : i - cs.length = 0 := by have := lt_of_at hz; simp at this; omega
        rw [hi0] at hz
        simp at hz
        subst hz
        rcases Nat.lt_or_ge j cs.length with hjl | hjl
        · rw [List.getElem?_append_left hjl] at hz'
          intro e
          have := low j z' k hz' e
          have := new k hk
          omega
        · rw [List.getElem?_append_right hjl] at hz'
          have hj0 : j - cs.length = 0 := by have := lt_of_at hz'; simp at this; omega
          omega

set_option maxRecDepth 100000 in
theorem grown_next {w wr w' : World} {v vr v' : Value} (h : w.grownBy wr v.ownBlock) (hf : Fresh w v vr) (h2 : wr.grownBy w' vr.ownBlock) (hf2 : Fresh wr vr v') : w.grownBy w' v.ownBlock ∧ Fresh w v v' := by
  have hs := h.size
  refine ⟨⟨h2.os.trans h.os, h2.tape.trans h.tape, h2.output.trans h.output, Nat.le_trans h.size h2.size, fun k hk hne => ?_⟩, ?_⟩
  · refine (h2.block k (by omega) (fun e => ?_)).trans (h.block k hk hne)
    rcases hf with hf | hf
    · exact hne (by rw [← hf]; exact e)
    · have := hf k e.symm; omega
  · rcases hf2 with hf2 | hf2
    · rcases hf with hf | hf
      · exact .inl (hf2.trans hf)
      · exact .inr (fun k hk => hf k (by rw [← hf2]; exact hk))
    · exact .inr (fun k hk => by have := hf2 k hk; omega)
set_option maxRecDepth 100000 in
theorem place_in {xs : List Int} {a : Int} : placeI xs a < 0 ↔ a ∉ xs := by
  have h := findI_nonneg (fun y => a == y) xs
  have h1 : (0 ≤ placeI xs a) ↔ a ∈ xs := by
    unfold placeI
    constructor
    · intro h0
      have : xs.any (fun y => a == y) = true := by rw [← h]; simpa using h0
      obtain ⟨y, hy, e⟩ := List.any_eq_true.1 this
      have : a = y := by simpa using e
      rw [this]; exact hy
    · intro hm
      have : xs.any (fun y => a == y) = true := List.any_eq_true.2 ⟨a, hm, by simp⟩
      rw [← h] at this
      simpa using this
  constructor
  · intro h0 hm; have := h1.2 hm; omega
  · intro hm; by_cases h0 : 0 ≤ placeI xs a
    · exact absurd (h1.1 h0) hm
    · omega

/-- What has been drawn of the orders that begin with `pre`, the next one below j. -/
def allTo (n k : Nat) (pre : List Int) (j : Nat) : List (List Int) := (upL j (notIn pre)).flatMap (fun x => allS n k (pre ++ [x]))
set_option maxRecDepth 100000 in
theorem allTo_succ (n k : Nat) (pre : List Int) (j : Nat) : allTo n k pre (j + 1) = allTo n k pre j ++ if notIn pre j then allS n k (pre ++ [(j : Int)]) else [] := by
  unfold allTo
  rw [upL_succ, List.flatMap_append]
  split <;> simp
set_option maxRecDepth 100000 in
theorem allS_len {n : Nat} (n2 : n ≤ 5) : ∀ (k : Nat) (pre : List Int), (allS n k pre).length ≤ 5 ^ k
  | 0, pre => by simp [allS]
  | k + 1, pre => by
    have key : ∀ j, (allTo n k pre j).length ≤ j * 5 ^ k := by
      intro j
      induction j with
      | zero => simp [allTo, upL]
      | succ j ih =>
        rw [allTo_succ, List.length_append, Nat.succ_mul]
        have h := allS_len n2 k (pre ++ [(j : Int)])
        split
        · omega
        · simp; omega
    have h := key n
    have h2 : n * 5 ^ k ≤ 5 * 5 ^ k := Nat.mul_le_mul_right _ n2
    rw [Nat.pow_succ, Nat.mul_comm]
    show (allTo n k pre n).length ≤ _
    omega
set_option maxRecDepth 100000 in
theorem allTo_len {n : Nat} (n2 : n ≤ 5) (k : Nat) (pre : List Int) : ∀ j, (allTo n k pre j).length ≤ j * 5 ^ k := by
  intro j
  induction j with
  | zero => simp [allTo, upL]
  | succ j ih =>
    rw [allTo_succ, List.length_append, Nat.succ_mul]
    have h := allS_len n2 k (pre ++ [(j : Int)])
    split
    · omega
    · simp; omega

set_option maxRecDepth 100000 in
set_option maxHeartbeats 4000000 in
theorem all_spec (n : Nat) (n2 : n ≤ 5) : ∀ (k : Nat) (pre : List Int) (W0 w0 w : World) (out u : Value) (xss : List (List Int)), pre.length + k = n → OwnSS w0 W0.heap.size out xss → Ext W0 w0 → Ext w0 w → OwnI w w0.heap.size u pre → xss.length + 5 ^ k ≤ 10000 →
    Calls Try.prog 217 #[out, u, .int .i64 n] w fun e w' => ∃ v, e = .returned v ∧ OwnSS w' W0.heap.size v (xss ++ allS n k pre) ∧ Ext W0 w' ∧ w.grownBy w' out.ownBlock ∧ Fresh w out v := by
  intro k
  induction k with
  | zero =>
    intro pre W0 w0 w out u xss hk hown hW0 hw hu hb
    obtain ⟨a, c, rfl, hc, hm, hR, _⟩ := hu.val
    have hl : pre.length = n := by omega
    have hl' : ((pre.length : Int) == (n : Int)) = true := by simp; omega
    have hb2 : xss.length ≤ 2000000 := by omega
    have HL := hide hl
    clear hl hk
    go_enter Try.func217, Try.ntmps217
    go_wp2_with (at_builtin; refine wpList_appSF W0 w0 _ rfl _ _ rfl _ xss _ pre rfl (by exact hown) hW0 hw (by exact hu) rfl hb2 ?_; intro v' w3 h1 h2 h3 h4)
    go_ret
    exact ⟨_, rfl, h1, h2, h3, h4⟩
  | succ k ih =>
    intro pre W0 w0 w out u xss hk hown hW0 hw hu hb
    obtain ⟨a, c, rfl, hc, hm, hR, _⟩ := hu.val
    have hl' : ((pre.length : Int) == (n : Int)) = false := by simp; omega
    have hpl : pre.length ≤ 5 := by omega
    have IH := hide ih
    have HK := hide hk
    have hb1 : xss.length + 5 * 5 ^ k ≤ 10000 := by rw [Nat.pow_succ, Nat.mul_comm] at hb; exact hb
    have HB := hide hb1
    have HO := hide hown
    clear ih hk hb hb1
    go_enter Try.func217, Try.ntmps217
    go_wp2_with fail
    go_loopw [0, 7] (fun v i wr => ∃ j : Nat, j ≤ n ∧ i = .int .i64 j ∧ OwnSS wr W0.heap.size v (xss ++ allTo n k pre j) ∧ Ext W0 wr ∧ w.grownBy wr out.ownBlock ∧ Hid (Fresh w out v)) (fun _ i _ => n - (intOf i).toNat)
    case atStart =>
      have h := hown.ext hw
      exact ⟨0, Nat.zero_le _, rfl, by simpa [allTo, upL] using h, hW0.trans hw, ⟨rfl, rfl, rfl, Nat.le_refl _, fun _ _ _ => rfl⟩, .inl rfl⟩
    case round =>
      obtain ⟨j, hj, rfl, hown2, hW, hg, hf⟩ := hrel
      by_cases hjt : j < n
      · obtain ⟨cs, hcs, _⟩ := HO.out
        have hu2 := hu.keepRow hg (own_ne' hu (ownsRow_ext hcs hw))
        have hR2 := hu2.rdI
        have hlen := allTo_len n2 k pre j
        clear hcs
        by_cases hp : placeI pre (j : Int) < 0
        · go_wp2_with fail
          refine (place_spec _ _ _ _ _ hR2 (by omega)).mono ?_
          rintro e w1 ⟨rfl, hw1⟩
          have hO := OwnI.made0 w1
          have hE1 : Ext wr (w1.alloc (.cells #[] 3)) := hw1.alloc _
          go_wp2_with (first
            | (at_builtin; refine wpList_appG w1.heap.size _ rfl _ _ rfl _ [] pre rfl (by exact hO) (by simp) a pre.length c rfl rfl (hR2.ext hE1) (by simp; omega) ?_; intro v1 w2 hO1 hg1 _; have hE2 : Ext wr w2 := Ext.grown hE1 hg1 (fun k hk => by have hk2 : (some w1.heap.size : Option Nat) = some k := hk; injection hk2 with hk2; have := hw1.size; omega); have hO1 := hO1.base hw1.size)
            | (at_builtin; refine wpList_appI wr _ rfl _ _ rfl _ pre _ rfl (by exact hO1) hE2 rfl (by omega) ?_; intro v2 w3 hO2 hE3))
          have hbl : (xss ++ allTo n k pre j).length + 5 ^ k ≤ 10000 := by
            have h1 := HB.out
            have h2 : j * 5 ^ k ≤ 4 * 5 ^ k := Nat.mul_le_mul_right _ (by omega)
            rw [List.length_append]; omega
          refine (IH.out (pre ++ [(j : Int)]) W0 wr w3 u0 v2 _ (by have := HK.out; simp; omega) hown2 hW hE3 hO2 hbl).mono ?_
          rintro e w4 ⟨v4, rfl, hO4, hE4, hg4, hf4⟩
          have hn := grown_next (grown_ext hg hE3) hf.out hg4 hf4
          have hno : notIn pre j = true := by
            unfold notIn
            cases h : hasI pre (j : Int)
            · rfl
            · exact absurd (hasI_iff.1 h) (place_in.1 hp)
          clear hO hO1 hg1 hE1 hE2 hO2 hg4 hf4
          go_wp2
          exact ⟨⟨j + 1, by omega, by go_num, by rw [allTo_succ, hno, ← List.append_assoc]; exact hO4, hE4, hn.1, hn.2⟩, by simp [intOf]; omega⟩
        · go_wp2_with fail
          refine (place_spec _ _ _ _ _ hR2 (by omega)).mono ?_
          rintro e w1 ⟨rfl, hw1⟩
          have hno : notIn pre j = false := by
            unfold notIn
            cases h : hasI pre (j : Int)
            · exact absurd (place_in.2 (fun hm => by rw [hasI_iff.2 hm] at h; cases h)) (by omega)
            · rfl
          go_wp2
          exact ⟨⟨j + 1, by omega, by go_num, by rw [allTo_succ, hno]; simpa using hown2.ext hw1, hW.trans hw1, grown_ext hg hw1, hf⟩, by simp [intOf]; omega⟩
      · have hjn : j = n := by omega
        go_wp2
        go_ret
        rw [hjn] at hown2
        exact ⟨_, rfl, hown2, hW, hg, hf.out⟩

set_option maxRecDepth 100000 in
set_option maxHeartbeats 1000000 in
theorem allR_spec (w : World) (n : Nat) (n1 : 1 ≤ n) (n2 : n ≤ 5) :
    Calls Try.prog 211 #[.int .i64 n] w fun e w' => ∃ v, e = .returned v ∧ OwnSS w' w.heap.size v (allO n) ∧ Ext w w' := by
  have hin : inR (n : Int) 1 5 = true := inR_iff.2 (by omega)
  have h5 : 5 ^ n ≤ 3125 := Nat.pow_le_pow_right (n := 5) (by decide) n2
  go_enter Try.func211, Try.ntmps211
  go_wp2_with (go_at_call 131; refine (in_spec _ _ _ _).mono ?_; rintro e w1 ⟨rfl, hw1⟩)
  have hb : ([] : List (List Int)).length + 5 ^ n ≤ 10000 := by rw [List.length_nil]; omega
  have h1 := OwnSS.made0 w1
  have h2 := Ext.new w1 (.cells #[] 29)
  have hs : (w1.alloc (.cells #[] 29)).heap.size = w1.heap.size + 1 := by simp
  generalize w1.alloc (.cells #[] 29) = w2 at h1 h2 hs ⊢
  have h3 := OwnI.made0 w2
  have h4 := Ext.new w2 (.cells #[] 3)
  generalize w2.alloc (.cells #[] 3) = w3 at h3 h4 ⊢
  have h3 : OwnI w3 w2.heap.size (.slice (some ⟨w1.heap.size + 1, 0, none⟩) 0 0) [] := by rw [← hs]; exact h3
  have h := all_spec n n2 n [] w1 w2 w3 _ _ [] (Nat.zero_add n) h1 h2 h4 h3 hb
  refine h.mono ?_
  rintro e w4 ⟨v, rfl, hO, hE, _, _⟩
  rw [List.nil_append] at hO
  go_wp2
  go_ret
  exact ⟨_, rfl, hO.base hw1.size, hw1.trans hE⟩

set_option maxRecDepth 100000 in
theorem OwnSS.lit1 (w : World) (u : Value) (xs : List Int) (hu : OwnI w w.heap.size u xs) (hn : u.ownBlock = none) : OwnSS (w.alloc (.cells #[u] 29)) w.heap.size (.slice (some ⟨w.heap.size, 0, none⟩) 1 1) [xs] := by
  refine ⟨[u], ⟨rfl, .inr ⟨w.heap.size, 1, #[u], rfl, Nat.le_refl _, heap_alloc_new _ _, Nat.le_refl _, by simp [maxLen], rfl, rfl⟩⟩, rfl, fun j ys h => ?_, fun i j z z' k hne hz hz' hk => ?_⟩
  · have : j = 0 := by
      have h2 := lt_of_at h
      rw [List.length_singleton] at h2; omega
    subst this
    simp at h
    subst h
    exact ⟨u, rfl, hu.ext (Ext.new _ _)⟩
  · have : i = 0 := by
      have h2 := lt_of_at hz
      rw [List.length_singleton] at h2; omega
    subst this
    simp at hz
    subst hz
    rw [hn] at hk; cases hk
set_option maxRecDepth 100000 in
theorem ordL_le : ∀ (k : Nat) (s : List Int), s.length = k → k ≤ 5 → (ordL k s).length ≤ 5 ^ k
  | 0, s, _, _ => by simp [ordL]
  | k + 1, s, hs, h5 => by
    have key : ∀ j, j ≤ s.length → ((List.range j).flatMap (fun i => (ordL k (s.eraseIdx i)).map (fun r => s.getD i 0 :: r))).length ≤ j * 5 ^ k := by
      intro j
      induction j with
      | zero => simp
      | succ j ih =>
        intro hj
        have h1 := ordL_le k (s.eraseIdx j) (by rw [List.length_eraseIdx, if_pos (by omega)]; omega) (by omega)
        have h2 := ih (by omega)
        rw [List.range_succ, List.flatMap_append, List.length_append, Nat.succ_mul]
        simp only [List.flatMap_cons, List.flatMap_nil, List.append_nil, List.length_map]
        omega
    have h1 := key s.length (Nat.le_refl _)
    have h2 : s.length * 5 ^ k ≤ 5 * 5 ^ k := Nat.mul_le_mul_right _ (by omega)
    rw [Nat.pow_succ, Nat.mul_comm]
    unfold ordL
    omega
/-- The orders that have been drawn when element j is next. -/
def ordTo (k : Nat) (s : List Int) (j : Nat) : List (List Int) := (List.range j).flatMap (fun i => (ordL k (s.eraseIdx i)).map (fun r => s.getD i 0 :: r))
def ordIn (k : Nat) (s : List Int) (j m : Nat) : List (List Int) := ordTo k s j ++ ((ordL k (s.eraseIdx j)).take m).map (fun r => s.getD j 0 :: r)
set_option maxRecDepth 100000 in
theorem ordTo_succ (k : Nat) (s : List Int) (j : Nat) : ordTo k s (j + 1) = ordIn k s j (ordL k (s.eraseIdx j)).length := by
  unfold ordTo ordIn
  rw [List.range_succ, List.flatMap_append, List.take_length]
  simp [ordTo]
set_option maxRecDepth 100000 in
theorem ordIn_succ {k : Nat} {s : List Int} {j m : Nat} {r : List Int} (h : (ordL k (s.eraseIdx j))[m]? = some r) : ordIn k s j (m + 1) = ordIn k s j m ++ [s.getD j 0 :: r] := by
  unfold ordIn
  rw [take_at h, List.map_append, List.append_assoc]; rfl
set_option maxRecDepth 100000 in
theorem ordTo_le {k : Nat} {s : List Int} (hs : s.length = k + 1) (h5 : k ≤ 4) : ∀ j, j ≤ s.length → (ordTo k s j).length ≤ j * 5 ^ k := by
  intro j
  induction j with
  | zero => simp [ordTo]
  | succ j ih =>
    intro hj
    have h1 := ordL_le k (s.eraseIdx j) (by rw [List.length_eraseIdx, if_pos (by omega)]; omega) (by omega)
    have h2 := ih (by omega)
    rw [ordTo_succ, ordIn, List.length_append, Nat.succ_mul]
    simp only [List.length_map, List.take_length]
    omega

set_option maxRecDepth 100000 in
set_option maxHeartbeats 4000000 in
theorem ord_impl : ∀ (k : Nat) (s : List Int) (w : World) (a : Option Addr) (c : Nat), s.length = k → k ≤ 5 → s.length ≤ c → RdI w a s →
    Calls Try.prog 186 #[.slice a s.length c] w fun e w' => ∃ v, e = .returned v ∧ OwnSS w' w.heap.size v (ordL k s) ∧ Ext w w' := by
  intro k
  induction k with
  | zero =>
    intro s w a c hs _ _ _
    have h0 : s = [] := List.length_eq_zero_iff.1 hs
    subst h0
    go_enter Try.func186, Try.ntmps186
    go_wp2
    go_ret
    exact ⟨_, rfl, OwnSS.lit1 w _ [] (OwnI.nil _ _) rfl, Ext.new _ _⟩
  | succ k ih =>
    intro s w a c hs h5 hc hR
    have hne : ((s.length : Int) == 0) = false := by rw [beq_eq_false_iff_ne]; omega
    have HS := hide hs
    have IH := hide ih
    have hc5 : s.length ≤ 5 := by omega
    have hpl : 5 ^ k ≤ 625 := Nat.pow_le_pow_right (n := 5) (by decide) (show k ≤ 4 by omega)
    clear ih hs
    go_enter Try.func186, Try.ntmps186
    go_wp2_with fail
    go_loopw [3, 4, 5, 7, 14, 28, 29, 30] (fun v _ _ _ i _ _ _ wr => ∃ j : Nat, j ≤ s.length ∧ i = .int .i64 j ∧ OwnSS wr w.heap.size v (ordTo k s j) ∧ Ext w wr) (fun _ _ _ _ i _ _ _ _ => s.length - (intOf i).toNat)
    case atStart => exact ⟨0, Nat.zero_le _, rfl, OwnSS.nil _ _, Ext.refl _⟩
    case round =>
      obtain ⟨j, hj, rfl, hown, hwr⟩ := hrel
      by_cases hjt : j < s.length
      · obtain ⟨x, hx⟩ := at_of_lt hjt
        obtain ⟨b, off, rfl, c0⟩ := (hR.ext hwr).at_ hx
        have hRr := hR.ext hwr
        have i1 : (j : Int) + 1 ≤ (c : Int) := by omega
        have i2 : j ≤ c := by omega
        have i3 : j + 1 ≤ c := by omega
        have i4 : j + 1 ≤ s.length := by omega
        have i7 : (j : Int) + 1 ≤ (s.length : Int) := by omega
        have i5 : ((j : Int) + 1).toNat = j + 1 := by omega
        have i6 : (0 : Int) ≤ (j : Int) + 1 := by omega
        have y1 : wrap64 ((j : Int) + 1) = (j : Int) + 1 := IntWalk.wrap64_in _ (by omega)
        have y2 : IntKind.i64.wrap ((j : Int) + 1) = (j : Int) + 1 := IntWalk.i64_in _ (by omega)
        go_wp2
        refine wp_region_O [11,0,1,2,3,4,5,6,7,8,9,10] (by kernel_rfl) rfl (by kernel_rfl) ?_
        repeat' (refine wpO_stepQ rfl (fun K hK => ?_)
                 go_simp
                 try (rw [if_neg (by intro h; simp [undef] at h)])
                 try split
                 all_goals
                   first
                   | (refine hK _ ?_
                      clear hK K)
                   | (apply Exists.intro
                      refine ⟨fun wq hwq => ?_, hK _ ?_⟩
                      · have hcq := hwq.cellS
                        go_simp
                        first
                        | exact ⟨Ext.refl _, rfl⟩
                      clear hK K))
        refine wpO_stepS rfl (by kernel_rfl) (fun K hK wq hwq => ?_)
        go_simp
        refine ⟨(by repeat (first | exact Ext.refl _ | assumption | refine Ext.alloc ?_ _ | refine Ext.drew ?_ | refine Ext.trans ?_ (by assumption))), hK _ _ ?_⟩
        clear hK K
        have hRd := hRr.drop (n := off + (j + 1)) (j + 1) c hc rfl
        generalize (if c = j + 1 then some (⟨b, off, none⟩ : Addr) else some ⟨b, off + (j + 1), none⟩) = A at hRd ⊢
        have f0 := new0 wq (.slice (some ⟨b, off, none⟩) j c) [.slice A (s.length - (j + 1)) (c - (j + 1))] 29
        have f1 := new1 wq (.slice (some ⟨b, off, none⟩) j c) (.slice A (s.length - (j + 1)) (c - (j + 1))) [] 29
        have hE8 : Ext wr (wq.alloc (.cells #[.slice (some ⟨b, off, none⟩) j c, .slice A (s.length - (j + 1)) (c - (j + 1))] 29)) := hwq.alloc _
        obtain ⟨gq, hgq⟩ : ∃ gq : Nat, gq = wq.heap.size := ⟨_, rfl⟩
        rw [← hgq] at f0 f1 ⊢
        generalize wq.alloc (.cells #[.slice (some ⟨b, off, none⟩) j c, .slice A (s.length - (j + 1)) (c - (j + 1))] 29) = wa at f0 f1 hE8 ⊢
        have HC : Hid (∀ w', Ext wa w' → Calls Try.prog 206 #[.slice (some ⟨gq, 0, none⟩) 2 2] w' fun e w'' => ∃ v, e = .returned v ∧ OwnI w'' w'.heap.size v (s.take j ++ s.drop (j + 1)) ∧ Ext w' w'') := fun w' hw' => by
          have l1 : (s.take j).length = j := by rw [List.length_take]; omega
          have l2 : (s.drop (j + 1)).length = s.length - (j + 1) := List.length_drop
          refine cat_impl w' gq (some ⟨b, off, none⟩) A c (c - (j + 1)) (s.take j) (s.drop (j + 1)) ?_ ?_ ?_ ?_ ?_
          · rw [l1]; exact hw'.keep f0
          · rw [l2]; exact hw'.keep f1
          · exact (hRr.ext (hE8.trans hw')).take j
          · exact hRd.ext (hE8.trans hw')
          · omega
        clear f0 f1 hgq hRd
        refine wpO_stepS rfl (by kernel_rfl) (fun K hK wq hwq => ?_)
        go_simp
        refine (HC.out _ hwq).mono ?_
        rintro e w3 ⟨v, rfl, hv, hw3⟩
        refine ⟨hw3, hK _ _ ?_⟩
        clear hK K
        have he : s.take j ++ s.drop (j + 1) = s.eraseIdx j := (List.eraseIdx_eq_take_drop_succ s j).symm
        rw [he] at hv
        have hel : (s.eraseIdx j).length = k := by
          have := HS.out
          rw [List.length_eraseIdx, if_pos hjt]; omega
        have hE9 : Ext wr w3 := hE8.trans (hwq.trans hw3)
        have HEL := hide hel
        obtain ⟨a2, c2, rfl, hc2, _, hR2, _⟩ := hv.val
        obtain ⟨wb, hwb⟩ : ∃ wb : World, wb = w3 := ⟨_, rfl⟩
        subst hwb
        have HI : Hid (∀ w', Ext wb w' → Calls Try.prog 186 #[.slice a2 (s.eraseIdx j).length c2] w' fun e w'' => ∃ v, e = .returned v ∧ OwnSS w'' w'.heap.size v (ordL k (s.eraseIdx j)) ∧ Ext w' w'') := fun w' hw' => IH.out (s.eraseIdx j) w' a2 c2 hel (by omega) hc2 (hR2.ext hw')
        clear hel hv hwq hw3 hE8 HC he hR2
        refine wpO_stepS rfl (by kernel_rfl) (fun K hK wq hwq => ?_)
        go_simp
        refine (HI.out _ hwq).mono ?_
        rintro e w4 ⟨v, rfl, hv4, hw4⟩
        refine ⟨hw4, hK _ _ ?_⟩
        clear hK K
        have hE10 : Ext wr w4 := hE9.trans (hwq.trans hw4)
        have hlo : wr.heap.size ≤ wq.heap.size := (hE9.trans hwq).size
        obtain ⟨lo, hlo'⟩ : ∃ lo : Nat, lo = wq.heap.size := ⟨_, rfl⟩
        rw [← hlo'] at hv4 hlo
        have hrl := ordL_le k (s.eraseIdx j) HEL.out (by omega)
        have hlow4 : lo ≤ w4.heap.size := by rw [hlo']; exact hw4.size
        have HRL : Hid (∀ r ∈ ordL k (s.eraseIdx j), r.length = k) := ordL_len k (s.eraseIdx j) HEL.out
        clear hwq hw4 hE9 hlo' HI
        have hT := ordTo_le HS.out (by omega) j hj
        have hT2 : j * 5 ^ k ≤ 5 * 5 ^ k := Nat.mul_le_mul_right _ (by omega)
        have hS0 : ordTo k s j = ordIn k s j 0 := by simp [ordIn]
        have hS1 := ordTo_succ k s j
        rw [hS0] at hown hT
        have HS1 := hide hS1
        have HIN : Hid (∀ m r, (ordL k (s.eraseIdx j))[m]? = some r → ordIn k s j (m + 1) = ordIn k s j m ++ [s.getD j 0 :: r]) := fun m r h => ordIn_succ h
        have HLN : Hid (∀ m, (ordIn k s j m).length ≤ (ordIn k s j 0).length + m) := fun m => by
          unfold ordIn
          simp only [List.length_append, List.length_map, List.length_take]
          omega
        have hgd : s.getD j 0 = x := by simp [List.getD, hx]
        rw [hgd] at HIN
        generalize ordL k (s.eraseIdx j) = rows at hv4 hrl HRL HS1 HIN
        clear hS0 hS1 hgd hx c0 HEL
        have hv5 := hv4.wr
        obtain ⟨av, cv, rfl, hcv, _⟩ := hv5
        have hv5 := hv4.wr
        clear hv4
        repeat' (refine wpO_stepQ rfl (fun K hK => ?_)
                 go_simp
                 try (rw [if_neg (by intro h; simp [undef] at h)])
                 try split
                 all_goals
                   first
                   | (refine hK _ ?_
                      clear hK K)
                   | (apply Exists.intro
                      refine ⟨fun wq hwq => ?_, hK _ ?_⟩
                      · have hcq := hwq.cellS
                        go_simp
                        first
                        | exact ⟨Ext.refl _, rfl⟩
                      clear hK K))
        refine wpO_nil (fun wz hwz => ?_)
        obtain ⟨wc, hwc⟩ : ∃ wc : World, wc = wz := ⟨_, rfl⟩
        subst hwc
        have hE11 := hE10.trans hwz
        have hv6 := hv5.ext hwz
        have hlow : lo ≤ wc.heap.size := Nat.le_trans hlow4 hwz.size
        have hob : Hid (∀ q, u3.ownBlock = some q → q < lo ∨ wc.heap.size ≤ q) := fun q hq => by
          obtain ⟨cs, hcs, _⟩ := hown
          have := (World.ownsRow.lt hcs q hq).2
          omega
        have hown := hown.ext hE11
        clear hE10 hwz hv5 hlow4
        have hwr0 := hwr.trans hE11
        clear hE11 hwr hRr hT2
        have hT3 : (ordIn k s j 0).length ≤ 3125 := by
          have : j * 5 ^ k ≤ 5 * 625 := Nat.mul_le_mul (by omega) hpl
          omega
        go_wp2_with fail
        go_loopw [3, 7, 30] (fun v _ m wr => ∃ q : Nat, q ≤ rows.length ∧ m = .int .i64 q ∧ OwnSS wr w.heap.size v (ordIn k s j q) ∧ Ext w wr ∧ Keeps lo wc.heap.size wc wr ∧ Hid (∀ b, v.ownBlock = some b → b < lo ∨ wc.heap.size ≤ b)) (fun _ _ m _ => rows.length - (intOf m).toNat)
        case atStart => exact ⟨0, Nat.zero_le _, rfl, hown, hwr0, Keeps.refl _ _ _, hob⟩
        case round =>
          clear hown hwr0 hob
          obtain ⟨q, hq, rfl, hown, hwr, hkp, hob⟩ := hrel
          have hln := HLN.out q
          have hcw := hkp.1
          by_cases hqt : q < rows.length
          · obtain ⟨r, hr⟩ := at_of_lt hqt
            obtain ⟨g, c3, a3, c4, hav, d0, hc4, hR3⟩ := (hv6.keeps hkp (Nat.le_refl _)).at_ hr
            injection hav with hav hav2 hav3
            subst hav
            subst hav3
            clear hav2
            have hrk := hide (HRL.out r (List.mem_of_getElem? hr))
            have HR := hide hr
            have l0 := (OwnI.lit1 wr x).rdI
            have f0 := new0 (wr.alloc (.cells #[.int .i64 x] 3)) (.slice (some ⟨wr.heap.size, 0, none⟩) 1 1) [.slice a3 r.length c4] 29
            have f1 := new1 (wr.alloc (.cells #[.int .i64 x] 3)) (.slice (some ⟨wr.heap.size, 0, none⟩) 1 1) (.slice a3 r.length c4) [] 29
            have hs1 : (wr.alloc (.cells #[.int .i64 x] 3)).heap.size = wr.heap.size + 1 := by simp
            rw [hs1] at f0 f1
            have hE5 : Ext wr ((wr.alloc (.cells #[.int .i64 x] 3)).alloc (.cells #[.slice (some ⟨wr.heap.size, 0, none⟩) 1 1, .slice a3 r.length c4] 29)) := (Ext.new _ _).trans (Ext.new _ _)
            have HC := hide (cat_impl _ (wr.heap.size + 1) (some ⟨wr.heap.size, 0, none⟩) a3 1 c4 [x] r f0 f1 (l0.ext (Ext.new _ _)) (hR3.ext hE5) (by have := hrk.out; simp; omega))
            clear hr f0 f1 l0
            go_wp2_with fail
            refine HC.out.mono ?_
            rintro e w3 ⟨v3, rfl, hv3, hw3⟩
            have hE6 := hE5.trans hw3
            have hv3 := hv3.base hE5.size
            obtain ⟨a5, n5, c5, rfl⟩ := hv3.form
            clear HC hE5 hw3 hR3 d0
            go_wp2_with (at_builtin; go_loud (refine wpList_appSF w wr _ rfl _ _ rfl _ (ordIn k s j q) _ (x :: r) rfl (by exact hown) hwr hE6 (by exact hv3) rfl (by omega) ?_); intro v' w4 h1 h2 h3 h4)
            have hkp2 := (hkp.ext hE6 hcw).grown h3 (Nat.le_trans hcw hE6.size) hob.out
            exact ⟨⟨q + 1, by omega, by go_num, by rw [HIN.out q r HR.out]; exact h1, h2, hkp2, h4.out hob.out (Nat.le_trans hcw hE6.size)⟩, by simp [intOf]; omega⟩
          · have hqn : q = rows.length := by omega
            go_wp2
            rw [hqn, ← HS1.out] at hown
            exact ⟨⟨j + 1, by omega, by go_num, hown, hwr⟩, by simp [intOf]; omega⟩
      · have hjn : j = s.length := by omega
        go_wp2
        go_ret
        rw [hjn] at hown
        exact ⟨_, rfl, hown, hwr⟩

set_option maxRecDepth 100000 in
set_option maxHeartbeats 1000000 in
theorem allR_impl (w : World) (n : Nat) (n1 : 1 ≤ n) (n2 : n ≤ 5) :
    Calls Try.prog 111 #[.int .i64 n] w fun e w' => ∃ v, e = .returned v ∧ OwnSS w' w.heap.size v (allO n) ∧ Ext w w' := by
  have hin : inR (n : Int) 1 5 = true := inR_iff.2 (by omega)
  go_enter Try.func111, Try.ntmps111
  go_wp2_with (go_at_call 94; refine (in_impl _ _ _ _).mono ?_; rintro e w1 ⟨rfl, hw1⟩)
  refine (indices_impl _ n n2).mono ?_
  rintro e w2 ⟨rfl, hB, hw2⟩
  have hl : (leftL n []).length = n := by rw [leftL_nil, upL_true_len]
  have hRd := hB.rdL (xs := leftL n []) (by omega) (fun j x hx => by
    rw [leftL_nil, ← iotaL_up] at hx
    obtain ⟨_, rfl⟩ := rowL_val hx
    rfl)
  have h := ord_impl n (leftL n []) w2 (some ⟨w1.heap.size, 0, none⟩) n hl n2 (by omega) hRd
  rw [hl, ← all_eq] at h
  have HH := hide h
  clear h hl hRd
  go_wp2_with fail
  refine HH.out.mono ?_
  rintro e w3 ⟨v, rfl, hO, hE⟩
  go_wp2
  go_ret
  exact ⟨_, rfl, hO.base (Nat.le_trans hw1.size hw2.size), hw1.trans (hw2.trans hE)⟩

set_option maxRecDepth 100000 in
theorem bkTo_bd (q : Int → Int → Bool) (r : List Int) : ∀ k, bkTo q r k ≤ k * r.length
  | 0 => by simp [bkTo]
  | k + 1 => by
    have h := bkTo_bd q r k
    have h2 := List.countP_le_length (p := fun y => q y (r.getD k 0)) (l := r.drop (k + 1))
    rw [List.length_drop] at h2
    rw [bkTo, Nat.succ_mul]
    omega
set_option maxRecDepth 100000 in
theorem countP_at {p : Int → Bool} {xs : List Int} {k : Nat} {x : Int} (h : xs[k]? = some x) : (xs.take (k + 1)).countP p = (xs.take k).countP p + if p x then 1 else 0 := by
  rw [take_at h, List.countP_append, List.countP_cons, List.countP_nil]; simp

set_option maxRecDepth 100000 in
set_option maxHeartbeats 4000000 in
theorem back_impl (K : Nat) (fst cap : Array Value) (q : Int → Int → Bool) (w : World) (sz : Int) (ap : Option Addr) (np cp : Nat) (a : Option Addr) (c : Nat) (xs : List Int) (hR : RdI w a xs) (hl : xs.length ≤ 5) (hc : xs.length ≤ c) (hK : Enters Try.prog K)
    (hf : ∀ (x y : Int) (w' : World), x ∈ xs → y ∈ xs → Ext w w' → Calls Try.prog K (fst ++ (#[.int .i64 x, .int .i64 y] ++ cap)) w' fun e w'' => e = .returned (.bool (q x y)) ∧ Ext w' w'') :
    Calls Try.prog 149 #[.agg #[.int .i64 sz, .slice ap np cp], .slice a xs.length c, .func (.func K) fst cap] w fun e w' => e = .returned (.int .i64 (bkI q xs : Nat)) ∧ Ext w w' := by
  unfold Enters at hK
  have HF := hide hf
  clear hf
  go_enter Try.func149, Try.ntmps149
  go_wp2_with fail
  have hE0 := Ext.new w (.cells #[.int .i64 sz, .slice ap np cp] 47)
  generalize w.alloc (.cells #[.int .i64 sz, .slice ap np cp] 47) = W0 at hE0 ⊢
  go_loopw [7, 8, 9, 11, 14, 22, 23, 24] (fun n _ _ _ i _ _ _ wr => ∃ j : Nat, j ≤ xs.length ∧ i = .int .i64 j ∧ n = .int .i64 (bkTo q xs j : Nat) ∧ Ext w wr) (fun _ _ _ _ i _ _ _ _ => xs.length - (intOf i).toNat)
  case atStart => exact ⟨0, Nat.zero_le _, rfl, rfl, hE0⟩
  case round =>
    clear hE0
    obtain ⟨j, hj, rfl, rfl, hwr⟩ := hrel
    have hbd := bkTo_bd q xs j
    have hbd2 : bkTo q xs j ≤ 5 * 5 := Nat.le_trans hbd (Nat.mul_le_mul (by omega) hl)
    by_cases hjt : j < xs.length
    · obtain ⟨x, hx⟩ := at_of_lt hjt
      have hxm := List.mem_of_getElem? hx
      obtain ⟨b, off, rfl, c0⟩ := (hR.ext hwr).at_ hx
      have hRd := (hR.ext hwr).drop (n := off + (j + 1)) (j + 1) c hc rfl
      have i1 : (j : Int) + 1 ≤ (c : Int) := by omega
      have i2 : j ≤ c := by omega
      have i3 : j + 1 ≤ c := by omega
      have i4 : j + 1 ≤ xs.length := by omega
      have i7 : (j : Int) + 1 ≤ (xs.length : Int) := by omega
      have i5 : ((j : Int) + 1).toNat = j + 1 := by omega
      have i6 : (0 : Int) ≤ (j : Int) + 1 := by omega
      have y1 : wrap64 ((j : Int) + 1) = (j : Int) + 1 := IntWalk.wrap64_in _ (by omega)
      have y2 : IntKind.i64.wrap ((j : Int) + 1) = (j : Int) + 1 := IntWalk.i64_in _ (by omega)
      have hgd : xs.getD j 0 = x := by simp [List.getD, hx]
      have hsu : bkTo q xs (j + 1) = bkTo q xs j + ((xs.drop (j + 1)).countP (fun y => q y x)) := by rw [bkTo, hgd]
      have HSU := hide hsu
      have hdl : (xs.drop (j + 1)).length = xs.length - (j + 1) := List.length_drop
      have HDL := hide hdl
      have HDM : Hid (∀ y ∈ xs.drop (j + 1), y ∈ xs) := fun y hy => List.mem_of_mem_drop hy
      clear hx hgd hsu hdl
      go_wp2_with fail
      all_goals
        first | rw [if_pos (by assumption)] at hRd | rw [if_neg (by assumption)] at hRd
        first | subst h | clear h
        clear i1 i2 i3 i4 i5 i6 i7 y1 y2
        generalize xs.drop (j + 1) = ys at hRd HSU HDL HDM
        obtain ⟨wo, hwo⟩ : ∃ wo : World, wo = wr := ⟨_, rfl⟩
        subst hwo
        go_loopw [7, 11, 24] (fun n _ i wr => ∃ m : Nat, m ≤ xs.length - (j + 1) ∧ i = .int .i64 m ∧ n = .int .i64 ((bkTo q xs j : Int) + ((ys.take m).countP (fun y => q y x) : Int)) ∧ Ext wo wr) (fun _ _ i _ => xs.length - (j + 1) - (intOf i).toNat)
        case atStart => exact ⟨0, Nat.zero_le _, rfl, by simp, Ext.refl _⟩
        case round =>
          obtain ⟨m, hm, rfl, rfl, hwr2⟩ := hrel
          by_cases hmt : m < xs.length - (j + 1)
          · obtain ⟨y, hy⟩ := at_of_lt (xs := ys) (k := m) (by have := HDL.out; omega)
            obtain ⟨b2, off2, hb2, d0⟩ := (hRd.ext hwr2).at_ hy
            injection hb2 with hb2
            injection hb2 with hb2 hb3
            subst hb2
            subst hb3
            have hcm := List.countP_le_length (p := fun y => q y x) (l := ys.take m)
            rw [List.length_take] at hcm
            have hm2 : (ys.take m).countP (fun y => q y x) ≤ 5 := by omega
            have y3 : wrap64 ((bkTo q xs j : Int) + ((ys.take m).countP (fun y => q y x) : Int) + 1) = (bkTo q xs j : Int) + ((ys.take m).countP (fun y => q y x) : Int) + 1 := IntWalk.wrap64_in _ (by omega)
            have HN := hide (countP_at (p := fun y => q y x) hy)
            have hym := HDM.out y (List.mem_of_getElem? hy)
            clear hy hcm
            have HC := hide (HF.out y x wr hym hxm (hwr.trans hwr2))
            cases hq : q y x
            all_goals
              rw [hq] at HC HN
              go_wp2_with fail
              all_goals refine HC.out.mono ?_
              all_goals rintro e w1 ⟨rfl, hw1⟩
              all_goals go_wp2
              all_goals refine ⟨⟨m + 1, by omega, by go_num, ?_, hwr2.trans hw1⟩, by simp [intOf]; omega⟩
              all_goals rw [HN.out]
              all_goals simp
              all_goals omega
          · have hmn : m = xs.length - (j + 1) := by omega
            have hyl := HDL.out
            go_wp2
            refine ⟨⟨j + 1, by omega, by go_num, ?_, hwr.trans hwr2⟩, by simp [intOf]; omega⟩
            rw [HSU.out, List.take_of_length_le (by omega), Int.natCast_add]
    · have hjn : j = xs.length := by omega
      go_wp2
      go_ret
      exact ⟨ret_int (by rw [hjn, bkTo_all]), hwr⟩

/-- The ranking, and whether there is one. -/
def mjL (sz : Int) (vs : List Vt) : List Int := if profOk sz vs then (mjO sz.toNat vs).getD [] else []
def mjB (sz : Int) (vs : List Vt) : Bool := if profOk sz vs then (mjO sz.toNat vs).isSome else false
set_option maxRecDepth 100000 in
theorem WrSS.own {w : World} {B : Nat} {v : Value} {xss : List (List Int)} (h : WrSS w B v xss) {k : Nat} {xs : List Int} (hx : xss[k]? = some xs) :
    ∃ g c a' c', v = .slice (some ⟨g, 0, none⟩) xss.length c ∧ w.cell? ⟨g, k, none⟩ = some (.slice a' xs.length c') ∧ xs.length ≤ c' ∧ OwnI w B (.slice a' xs.length c') xs := by
  obtain ⟨a, c, hv, hc, ho⟩ := h
  obtain ⟨g, us, rfl, hM⟩ := ho (ne_of_at hx)
  have h1 := hM.row k (lt_of_at hx)
  simp only [List.getD, hx, Option.getD_some] at h1
  obtain ⟨a', c', hu, hc', _, hR, _⟩ := h1.val
  refine ⟨g, c, a', c', hv, by rw [hM.outer.cell k (lt_of_at hx), hu], hc', ?_⟩
  rw [← hu]; exact h1

set_option maxRecDepth 100000 in
set_option maxHeartbeats 1000000 in
theorem mjOne (w : World) (g n : Nat) (a : Option Addr) (c : Nat) (vs : List Vt) (x y : Int) (h0 : w.cell? ⟨g, 0, none⟩ = some (.int .i64 n)) (h1 : w.cell? ⟨g, 1, none⟩ = some (.slice a vs.length c)) (hR : RdV w a vs) (hS : SmallV n vs) :
    Calls Try.prog 150 (#[] ++ (#[.int .i64 x, .int .i64 y] ++ #[.pointer (some ⟨g, 0, none⟩)])) w fun e w' => e = .returned (.bool (mjQ vs x y)) ∧ Ext w w' := by
  show Calls Try.prog 150 #[.int .i64 x, .int .i64 y, .pointer (some ⟨g, 0, none⟩)] w _
  go_enter Try.func150, Try.ntmps150
  go_wp2_with (go_at_call 138; refine (beats_impl _ _ _ _ _ _ _ (hR.ext (by repeat (first | exact Ext.refl _ | assumption | refine Ext.alloc ?_ _ | refine Ext.drew ?_ | refine Ext.trans ?_ (by assumption)))) hS).mono ?_; rintro e w1 ⟨rfl, hw1⟩)
  go_ret
  exact ⟨rfl, (by repeat (first | exact Ext.refl _ | assumption | refine Ext.alloc ?_ _ | refine Ext.drew ?_ | refine Ext.trans ?_ (by assumption)))⟩

set_option maxRecDepth 100000 in
set_option maxHeartbeats 4000000 in
theorem mj_impl (w : World) (sz : Int) (a : Option Addr) (c : Nat) (vs : List Vt) (hR : RdV w a vs) :
    Calls Try.prog 56 #[.agg #[.int .i64 sz, .slice a vs.length c]] w fun e w' => ∃ v, e = .returned (.tuple #[v, .bool (mjB sz vs)]) ∧ OwnI w' w.heap.size v (mjL sz vs) ∧ Ext w w' := by
  have q0 := new0 w (.int .i64 sz) [.slice a vs.length c] 47
  have q1 := new1 w (.int .i64 sz) (.slice a vs.length c) [] 47
  cases h0 : profOk sz vs
  · go_enter Try.func56, Try.ntmps56
    go_wp2_with (go_at_call 35; refine (prof_impl _ _ _ _ _ (hR.ext (by repeat (first | exact Ext.refl _ | assumption | refine Ext.alloc ?_ _ | refine Ext.drew ?_ | refine Ext.trans ?_ (by assumption))))).mono ?_; rintro e w1 ⟨rfl, hw1⟩; have q0 := Ext.keep (w' := w1) (by repeat (first | exact Ext.refl _ | assumption | refine Ext.alloc ?_ _ | refine Ext.drew ?_ | refine Ext.trans ?_ (by assumption))) q0; have q1 := Ext.keep (w' := w1) (by repeat (first | exact Ext.refl _ | assumption | refine Ext.alloc ?_ _ | refine Ext.drew ?_ | refine Ext.trans ?_ (by assumption))) q1)
    go_ret2
    exact ⟨.slice none 0 0, by simp [mjB, h0], by simp [mjL, h0]; exact OwnI.nil _ _, (by repeat (first | exact Ext.refl _ | assumption | refine Ext.alloc ?_ _ | refine Ext.drew ?_ | refine Ext.trans ?_ (by assumption)))⟩
  obtain ⟨n, rfl, n1, n2⟩ := prof_nat h0
  have HS := hide (prof_small h0)
  go_enter Try.func56, Try.ntmps56
  go_wp2_with (go_at_call 35; refine (prof_impl _ _ _ _ _ (hR.ext (by repeat (first | exact Ext.refl _ | assumption | refine Ext.alloc ?_ _ | refine Ext.drew ?_ | refine Ext.trans ?_ (by assumption))))).mono ?_; rintro e w1 ⟨rfl, hw1⟩; have q0 := Ext.keep (w' := w1) (by repeat (first | exact Ext.refl _ | assumption | refine Ext.alloc ?_ _ | refine Ext.drew ?_ | refine Ext.trans ?_ (by assumption))) q0; have q1 := Ext.keep (w' := w1) (by repeat (first | exact Ext.refl _ | assumption | refine Ext.alloc ?_ _ | refine Ext.drew ?_ | refine Ext.trans ?_ (by assumption))) q1)
  refine (allR_impl _ n n1 n2).mono ?_
  rintro e w2 ⟨v, rfl, hv, hw2⟩
  have hw : Ext w w2 := (by repeat (first | exact Ext.refl _ | assumption | refine Ext.alloc ?_ _ | refine Ext.drew ?_ | refine Ext.trans ?_ (by assumption)))
  have hlow : w.heap.size ≤ w1.heap.size := Ext.size (by repeat (first | exact Ext.refl _ | assumption | refine Ext.alloc ?_ _ | refine Ext.drew ?_ | refine Ext.trans ?_ (by assumption)))
  have q0 := hw2.keep q0
  have q1 := hw2.keep q1
  have hR2 := hR.ext hw
  have HM : Hid (∀ r ∈ allO n, rkOk n r = true) := fun r hr => (allO_mem n1 n2).1 hr
  have HL : Hid (mjL n vs = ((allO n).find? (mjOk vs)).getD []) := hide (by simp [mjL, h0, mjO])
  have HB : Hid (mjB n vs = ((allO n).find? (mjOk vs)).isSome) := hide (by simp [mjB, h0, mjO])
  have hrl : (allO n).length ≤ 3125 := Nat.le_trans (allS_len n2 n []) (Nat.pow_le_pow_right (n := 5) (by decide) n2)
  generalize allO n = rows at hv HM HL HB hrl
  have hv := hv.wr
  have hv' := hv
  obtain ⟨av, cv, rfl, hcv, hju⟩ := hv'
  clear hju hw1 hw2
  obtain ⟨wb, hwb⟩ : ∃ wb : World, wb = w2 := ⟨_, rfl⟩
  subst hwb
  go_wp2_with fail
  go_loopw [5, 13] (fun _ i wr => ∃ k : Nat, k ≤ rows.length ∧ i = .int .i64 k ∧ Hid ((rows.take k).all (fun r => !mjOk vs r) = true) ∧ Ext wb wr) (fun _ i _ => rows.length - (intOf i).toNat)
  case atStart => exact ⟨0, Nat.zero_le _, rfl, rfl, Ext.refl _⟩
  case round =>
    obtain ⟨k, hk, rfl, hall, hwr⟩ := hrel
    by_cases hkt : k < rows.length
    · obtain ⟨r, hr⟩ := at_of_lt hkt
      obtain ⟨g, c3, a3, c4, hav, d0, hc4, hO⟩ := (hv.ext hwr).own hr
      injection hav with hav hav2 hav3
      subst hav
      subst hav3
      clear hav2
      have hrk := rk_len (HM.out r (List.mem_of_getElem? hr))
      have hr5 : r.length ≤ 5 := hrk.2
      have HR := hide hr
      have r0 := hwr.keep q0
      have r1 := hwr.keep q1
      have hRr := hR2.ext hwr
      have HC := hide (back_impl 150 #[] #[.pointer (some ⟨w.heap.size, 0, none⟩)] (mjQ vs) wr n a vs.length c a3 c4 r hO.rdI hr5 hc4 Try.call150
        (fun x y w' _ _ hw' => mjOne w' w.heap.size n a c vs x y (hw'.keep r0) (hw'.keep r1) (hRr.ext hw') HS.out))
      clear hr hrk
      cases hm : mjOk vs r
      · have hz : (((bkI (mjQ vs) r : Nat) : Int) == 0) = false := by
          rw [beq_eq_false_iff_ne]
          intro e
          have : mjOk vs r = true := by unfold mjOk; rw [decide_eq_true_iff]; omega
          rw [hm] at this; cases this
        go_wp2_with fail
        refine HC.out.mono ?_
        rintro e w3 ⟨rfl, hw3⟩
        go_wp2
        exact ⟨⟨k + 1, by omega, by go_num, (all_take HR.out hall.out).trans (by simp [hm]), hwr.trans hw3⟩, by simp [intOf]; omega⟩
      · have hz : (((bkI (mjQ vs) r : Nat) : Int) == 0) = true := by
          have h1 : bkI (mjQ vs) r = 0 := by unfold mjOk at hm; exact decide_eq_true_iff.1 hm
          rw [h1]; rfl
        have HF : Hid (rows.find? (mjOk vs) = some r) := by
          have hlt := lt_of_at HR.out
          refine List.find?_eq_some_iff_getElem.2 ⟨hm, k, hlt, ?_, fun j hj => ?_⟩
          · have := HR.out
            rw [List.getElem?_eq_getElem hlt] at this
            injection this
          · have h1 := List.all_eq_true.1 hall.out rows[j] (by rw [List.mem_take_iff_getElem]; exact ⟨j, by omega, rfl⟩)
            simpa using h1
        go_wp2_with fail
        refine HC.out.mono ?_
        rintro e w3 ⟨rfl, hw3⟩
        go_wp2
        go_ret2
        refine ⟨_, by rw [HB.out, HF.out]; rfl, ?_, hw.trans (hwr.trans hw3)⟩
        rw [HL.out, HF.out]
        exact (hO.ext hw3).base hlow
    · go_wp2
      go_ret2
      have HF : rows.find? (mjOk vs) = none := by
        rw [List.find?_eq_none]
        intro r hr
        have h1 := List.all_eq_true.1 (all_whole (by omega) hall.out) r hr
        simpa using h1
      exact ⟨_, by rw [HB.out, HF]; rfl, by rw [HL.out, HF]; exact OwnI.nil _ _, hw.trans hwr⟩

end Go.Proofs.Ythiojkpoeejkaaa
