/- All rankings, as the spec draws them. -/
import Derived.Test.YtacmabdeocmheaaAll
import Derived.Test.YtacmabdeocmheaaAppG
import Derived.Test.YtacmabdeocmheaaAllB
import Derived.Test.YtacmabdeocmheaaPair
namespace Go.Proofs.Ytacmabdeocmheaa
open Go.RowKit

set_option maxRecDepth 100000 in
theorem grown_next {w wr w' : World} {v vr v' : Value} (h : w.grownBy wr v.ownBlock) (hf : Fresh w v vr) (h2 : wr.grownBy w' vr.ownBlock) (hf2 : Fresh wr vr v') : w.grownBy w' v.ownBlock ∧ Fresh w v v' := by
  have hs := h.size
  refine ⟨⟨h2.os.trans h.os, h2.tape.trans h.tape, h2.output.trans h.output, Nat.le_trans h.size h2.size, fun k hk hne => ?_⟩, ?_⟩
  · refine (h2.block k (by omega) (fun e => ?_)).trans (h.block k hk hne)
    rcases hf with hf | hf
    · exact hne (by rw [← hf]; exact e)
    · have := hf k e.symm; omega
  · rcases hf2 with hf2 | hf2
    · rcases hf with hf | hf
      · exact .inl (hf2.trans hf)
      · exact .inr (fun k hk => hf k (by rw [← hf2]; exact hk))
    · exact .inr (fun k hk => by have := hf2 k hk; omega)
set_option maxRecDepth 100000 in
theorem place_in {xs : List Int} {a : Int} : placeI xs a < 0 ↔ a ∉ xs := by
  have h := findI_nonneg (fun y => a == y) xs
  have h1 : (0 ≤ placeI xs a) ↔ a ∈ xs := by
    unfold placeI
    constructor
    · intro h0
      have : xs.any (fun y => a == y) = true := by rw [← h]; simpa using h0
      obtain ⟨y, hy, e⟩ := List.any_eq_true.1 this
      have : a = y := by simpa using e
      rw [this]; exact hy
    · intro hm
      have : xs.any (fun y => a == y) = true := List.any_eq_true.2 ⟨a, hm, by simp⟩
      rw [← h] at this
      simpa using this
  constructor
  · intro h0 hm; have := h1.2 hm; omega
  · intro hm; by_cases h0 : 0 ≤ placeI xs a
    · exact absurd (h1.1 h0) hm
    · omega

/-- What has been drawn of the orders that begin with `pre`, the next one below j. -/
def allTo (n k : Nat) (pre : List Int) (j : Nat) : List (List Int) := (upL j (notIn pre)).flatMap (fun x => allS n k (pre ++ [x]))
set_option maxRecDepth 100000 in
theorem allTo_succ (n k : Nat) (pre : List Int) (j : Nat) : allTo n k pre (j + 1) = allTo n k pre j ++ if notIn pre j then allS n k (pre ++ [(j : Int)]) else [] := by
  unfold allTo
  rw [upL_succ, List.flatMap_append]
  split <;> simp
set_option maxRecDepth 100000 in
theorem allS_len {n : Nat} (n2 : n ≤ 5) : ∀ (k : Nat) (pre : List Int), (allS n k pre).length ≤ 5 ^ k
  | 0, pre => by simp [allS]
  | k + 1, pre => by
    have key : ∀ j, (allTo n k pre j).length ≤ j * 5 ^ k := by
      intro j
      induction j with
      | zero => simp [allTo, upL]
      | succ j ih =>
        rw [allTo_succ, List.length_append, Nat.succ_mul]
        have h := allS_len n2 k (pre ++ [(j : Int)])
        split
        · omega
        · simp; omega
    have h := key n
    have h2 : n * 5 ^ k ≤ 5 * 5 ^ k := Nat.mul_le_mul_right _ n2
    rw [Nat.pow_succ, Nat.mul_comm]
    show (allTo n k pre n).length ≤ _
    omega
set_option maxRecDepth 100000 in
theorem allTo_len {n : Nat} (n2 : n ≤ 5) (k : Nat) (pre : List Int) : ∀ j, (allTo n k pre j).length ≤ j * 5 ^ k := by
  intro j
  induction j with
  | zero => simp [allTo, upL]
  | succ j ih =>
    rw [allTo_succ, List.length_append, Nat.succ_mul]
    have h := allS_len n2 k (pre ++ [(j : Int)])
    split
    · omega
    · simp; omega

set_option maxRecDepth 100000 in
set_option maxHeartbeats 4000000 in
theorem all_spec (n : Nat) (n2 : n ≤ 5) : ∀ (k : Nat) (pre : List Int) (W0 w0 w : World) (out u : Value) (xss : List (List Int)), pre.length + k = n → OwnSS w0 W0.heap.size out xss → Ext W0 w0 → Ext w0 w → OwnI w w0.heap.size u pre → xss.length + 5 ^ k ≤ 10000 →
    Calls Try.prog 233 #[out, u, .int .i64 n] w fun e w' => ∃ v, e = .returned v ∧ OwnSS w' W0.heap.size v (xss ++ allS n k pre) ∧ Ext W0 w' ∧ w.grownBy w' out.ownBlock ∧ Fresh w out v := by
  intro k
  induction k with
  | zero =>
    intro pre W0 w0 w out u xss hk hown hW0 hw hu hb
    obtain ⟨a, c, rfl, hc, hm, hR, _⟩ := hu.val
    have hl : pre.length = n := by omega
    have hl' : ((pre.length : Int) == (n : Int)) = true := by simp; omega
    have hb2 : xss.length ≤ 2000000 := by omega
    have HL := hide hl
    clear hl hk
    go_enter Try.func233, Try.ntmps233
    go_wp2_with (at_builtin; refine wpList_appSF W0 w0 _ rfl _ _ rfl _ xss _ pre rfl (by exact hown) hW0 hw (by exact hu) rfl hb2 ?_; intro v' w3 h1 h2 h3 h4)
    go_ret
    exact ⟨_, rfl, h1, h2, h3, h4⟩
  | succ k ih =>
    intro pre W0 w0 w out u xss hk hown hW0 hw hu hb
    obtain ⟨a, c, rfl, hc, hm, hR, _⟩ := hu.val
    have hl' : ((pre.length : Int) == (n : Int)) = false := by simp; omega
    have hpl : pre.length ≤ 5 := by omega
    have IH := hide ih
    have HK := hide hk
    have hb1 : xss.length + 5 * 5 ^ k ≤ 10000 := by rw [Nat.pow_succ, Nat.mul_comm] at hb; exact hb
    have HB := hide hb1
    have HO := hide hown
    clear ih hk hb hb1
    go_enter Try.func233, Try.ntmps233
    go_wp2_with fail
    go_loopw [0, 7] (fun v i wr => ∃ j : Nat, j ≤ n ∧ i = .int .i64 j ∧ OwnSS wr W0.heap.size v (xss ++ allTo n k pre j) ∧ Ext W0 wr ∧ w.grownBy wr out.ownBlock ∧ Hid (Fresh w out v)) (fun _ i _ => n - (intOf i).toNat)
    case atStart =>
      have h := hown.ext hw
      exact ⟨0, Nat.zero_le _, rfl, by simpa [allTo, upL] using h, hW0.trans hw, ⟨rfl, rfl, rfl, Nat.le_refl _, fun _ _ _ => rfl⟩, .inl rfl⟩
    case round =>
      obtain ⟨j, hj, rfl, hown2, hW, hg, hf⟩ := hrel
      by_cases hjt : j < n
      · obtain ⟨cs, hcs, _⟩ := HO.out
        have hu2 := hu.keepRow hg (own_ne' hu (ownsRow_ext hcs hw))
        have hR2 := hu2.rdI
        have hlen := allTo_len n2 k pre j
        clear hcs
        by_cases hp : placeI pre (j : Int) < 0
        · go_wp2_with fail
          refine (place_spec _ _ _ _ _ hR2 (by omega)).mono ?_
          rintro e w1 ⟨rfl, hw1⟩
          have hO := OwnI.made0 w1
          have hE1 : Ext wr (w1.alloc (.cells #[] 3)) := hw1.alloc _
          go_wp2_with (first
            | (at_builtin; refine wpList_appG w1.heap.size _ rfl _ _ rfl _ [] pre rfl (by exact hO) (by simp) a pre.length c rfl rfl (hR2.ext hE1) (by simp; omega) ?_; intro v1 w2 hO1 hg1 _; have hE2 : Ext wr w2 := Ext.grown hE1 hg1 (fun k hk => by have hk2 : (some w1.heap.size : Option Nat) = some k := hk; injection hk2 with hk2; have := hw1.size; omega); have hO1 := hO1.base hw1.size)
            | (at_builtin; refine wpList_appI wr _ rfl _ _ rfl _ pre _ rfl (by exact hO1) hE2 rfl (by omega) ?_; intro v2 w3 hO2 hE3))
          have hbl : (xss ++ allTo n k pre j).length + 5 ^ k ≤ 10000 := by
            have h1 := HB.out
            have h2 : j * 5 ^ k ≤ 4 * 5 ^ k := Nat.mul_le_mul_right _ (by omega)
            rw [List.length_append]; omega
          refine (IH.out (pre ++ [(j : Int)]) W0 wr w3 u0 v2 _ (by have := HK.out; simp; omega) hown2 hW hE3 hO2 hbl).mono ?_
          rintro e w4 ⟨v4, rfl, hO4, hE4, hg4, hf4⟩
          have hn := grown_next (grown_ext hg hE3) hf.out hg4 hf4
          have hno : notIn pre j = true := by
            unfold notIn
            cases h : hasI pre (j : Int)
            · rfl
            · exact absurd (hasI_iff.1 h) (place_in.1 hp)
          clear hO hO1 hg1 hE1 hE2 hO2 hg4 hf4
          go_wp2
          exact ⟨⟨j + 1, by omega, by go_num, by rw [allTo_succ, hno, ← List.append_assoc]; exact hO4, hE4, hn.1, hn.2⟩, by simp [intOf]; omega⟩
        · go_wp2_with fail
          refine (place_spec _ _ _ _ _ hR2 (by omega)).mono ?_
          rintro e w1 ⟨rfl, hw1⟩
          have hno : notIn pre j = false := by
            unfold notIn
            cases h : hasI pre (j : Int)
            · exact absurd (place_in.2 (fun hm => by rw [hasI_iff.2 hm] at h; cases h)) (by omega)
            · rfl
          go_wp2
          exact ⟨⟨j + 1, by omega, by go_num, by rw [allTo_succ, hno]; simpa using hown2.ext hw1, hW.trans hw1, grown_ext hg hw1, hf⟩, by simp [intOf]; omega⟩
      · have hjn : j = n := by omega
        go_wp2
        go_ret
        rw [hjn] at hown2
        exact ⟨_, rfl, hown2, hW, hg, hf.out⟩

end Go.Proofs.Ytacmabdeocmheaa
