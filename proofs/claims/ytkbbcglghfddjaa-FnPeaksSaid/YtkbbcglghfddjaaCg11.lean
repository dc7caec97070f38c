/- All rankings, as the spec draws them. All rankings of the spec, from the start. slices.Delete and slices.Clone of integers. Eliminations of the program: by a worth, any worth. -/
import Derived.Test.YtkbbcglghfddjaaCg10
import Derived.Test.YtkbbcglghfddjaaCg5
import Derived.Test.YtkbbcglghfddjaaCg3
import Derived.Laws.IdiomCopy
import Derived.Deep.RegionLaw
import Derived.Lib.SliceRun
import Derived.Test.YtkbbcglghfddjaaCg8
import Derived.Test.YtkbbcglghfddjaaCg6
namespace Go.Proofs.Ytkbbcglghfddjaa
open Go.RowKit

set_option maxRecDepth 100000 in
theorem grown_next {w wr w' : World} {v vr v' : Value} (h : w.grownBy wr v.ownBlock) (hf : Fresh w v vr) (h2 : wr.grownBy w' vr.ownBlock) (hf2 : Fresh wr vr v') : w.grownBy w' v.ownBlock ∧ Fresh w v v' := by
  have hs := h.size
  refine ⟨⟨h2.os.trans h.os, h2.tape.trans h.tape, h2.output.trans h.output, Nat.le_trans h.size h2.size, fun k hk hne => ?_⟩, ?_⟩
  · refine (h2.block k (by omega) (fun e => ?_)).trans (h.block k hk hne)
    rcases hf with hf | hf
    · exact hne (by rw [← hf]; exact e)
    · have := hf k e.symm; omega
  · rcases hf2 with hf2 | hf2
    · rcases hf with hf | hf
      · exact .inl (hf2.trans hf)
      · exact .inr (fun k hk => hf k (by rw [← hf2]; exact hk))
    · exact .inr (fun k hk => by have := hf2 k hk; omega)
set_option maxRecDepth 100000 in
theorem place_in {xs : List Int} {a : Int} : placeI xs a < 0 ↔ a ∉ xs := by
  have h := findI_nonneg (fun y => a == y) xs
  have h1 : (0 ≤ placeI xs a) ↔ a ∈ xs := by
    unfold placeI
    constructor
    · intro h0
      have : xs.any (fun y => a == y) = true := by rw [← h]; simpa using h0
      obtain ⟨y, hy, e⟩ := List.any_eq_true.1 this
      have : a = y := by simpa using e
      rw [this]; exact hy
    · intro hm
      have : xs.any (fun y => a == y) = true := List.any_eq_true.2 ⟨a, hm, by simp⟩
      rw [← h] at this
      simpa using this
  constructor
  · intro h0 hm; have := h1.2 hm; omega
  · intro hm; by_cases h0 : 0 ≤ placeI xs a
    · exact absurd (h1.1 h0) hm
    · omega

/-- What has been drawn of the orders that begin with `pre`, the next one below j. -/
def allTo (n k : Nat) (pre : List Int) (j : Nat) : List (List Int) := (upL j (notIn pre)).flatMap (fun x => allS n k (pre ++ [x]))
set_option maxRecDepth 100000 in
theorem allTo_succ (n k : Nat) (pre : List Int) (j : Nat) : allTo n k pre (j + 1) = allTo n k pre j ++ if notIn pre j then allS n k (pre ++ [(j : Int)]) else [] := by
  unfold allTo
  rw [upL_succ, List.flatMap_append]
  split <;> simp
set_option maxRecDepth 100000 in
theorem allS_len {n : Nat} (n2 : n ≤ 5) : ∀ (k : Nat) (pre : List Int), (allS n k pre).length ≤ 5 ^ k
  | 0, pre => by simp [allS]
  | k + 1, pre => by
    have key : ∀ j, (allTo n k pre j).length ≤ j * 5 ^ k := by
      intro j
      induction j with
      | zero => simp [allTo, upL]
      | succ j ih =>
        rw [allTo_succ, List.length_append, Nat.succ_mul]
        have h := allS_len n2 k (pre ++ [(j : Int)])
        split
        · omega
        · simp; omega
    have h := key n
    have h2 : n * 5 ^ k ≤ 5 * 5 ^ k := Nat.mul_le_mul_right _ n2
    rw [Nat.pow_succ, Nat.mul_comm]
    show (allTo n k pre n).length ≤ _
    omega
set_option maxRecDepth 100000 in
theorem allTo_len {n : Nat} (n2 : n ≤ 5) (k : Nat) (pre : List Int) : ∀ j, (allTo n k pre j).length ≤ j * 5 ^ k := by
  intro j
  induction j with
  | zero => simp [allTo, upL]
  | succ j ih =>
    rw [allTo_succ, List.length_append, Nat.succ_mul]
    have h := allS_len n2 k (pre ++ [(j : Int)])
    split
    · omega
    · simp; omega

set_option maxRecDepth 100000 in
set_option maxHeartbeats 4000000 in
theorem all_spec (n : Nat) (n2 : n ≤ 5) : ∀ (k : Nat) (pre : List Int) (W0 w0 w : World) (out u : Value) (xss : List (List Int)), pre.length + k = n → OwnSS w0 W0.heap.size out xss → Ext W0 w0 → Ext w0 w → OwnI w w0.heap.size u pre → xss.length + 5 ^ k ≤ 10000 →
    Calls Try.prog 97 #[out, u, .int .i64 n] w fun e w' => ∃ v, e = .returned v ∧ OwnSS w' W0.heap.size v (xss ++ allS n k pre) ∧ Ext W0 w' ∧ w.grownBy w' out.ownBlock ∧ Fresh w out v := by
  intro k
  induction k with
  | zero =>
    intro pre W0 w0 w out u xss hk hown hW0 hw hu hb
    obtain ⟨a, c, rfl, hc, hm, hR, _⟩ := hu.val
    have hl : pre.length = n := by omega
    have hl' : ((pre.length : Int) == (n : Int)) = true := by simp; omega
    have hb2 : xss.length ≤ 2000000 := by omega
    have HL := hide hl
    clear hl hk
    go_enter Try.func97, Try.ntmps97
    go_wp2_with (at_builtin; refine wpList_appSF W0 w0 _ rfl _ _ rfl _ xss _ pre rfl (by exact hown) hW0 hw (by exact hu) rfl hb2 ?_; intro v' w3 h1 h2 h3 h4)
    go_ret
    exact ⟨_, rfl, h1, h2, h3, h4⟩
  | succ k ih =>
    intro pre W0 w0 w out u xss hk hown hW0 hw hu hb
    obtain ⟨a, c, rfl, hc, hm, hR, _⟩ := hu.val
    have hl' : ((pre.length : Int) == (n : Int)) = false := by simp; omega
    have hpl : pre.length ≤ 5 := by omega
    have IH := hide ih
    have HK := hide hk
    have hb1 : xss.length + 5 * 5 ^ k ≤ 10000 := by rw [Nat.pow_succ, Nat.mul_comm] at hb; exact hb
    have HB := hide hb1
    have HO := hide hown
    clear ih hk hb hb1
    go_enter Try.func97, Try.ntmps97
    go_wp2_with fail
    go_loopw [0, 7] (fun v i wr => ∃ j : Nat, j ≤ n ∧ i = .int .i64 j ∧ OwnSS wr W0.heap.size v (xss ++ allTo n k pre j) ∧ Ext W0 wr ∧ w.grownBy wr out.ownBlock ∧ Hid (Fresh w out v)) (fun _ i _ => n - (intOf i).toNat)
    case atStart =>
      have h := hown.ext hw
      exact ⟨0, Nat.zero_le _, rfl, by simpa [allTo, upL] using h, hW0.trans hw, ⟨rfl, rfl, rfl, Nat.le_refl _, fun _ _ _ => rfl⟩, .inl rfl⟩
    case round =>
      obtain ⟨j, hj, rfl, hown2, hW, hg, hf⟩ := hrel
      by_cases hjt : j < n
      · obtain ⟨cs, hcs, _⟩ := HO.out
        have hu2 := hu.keepRow hg (own_ne' hu (ownsRow_ext hcs hw))
        have hR2 := hu2.rdI
        have hlen := allTo_len n2 k pre j
        clear hcs
        by_cases hp : placeI pre (j : Int) < 0
        · go_wp2_with fail
          refine (place_spec _ _ _ _ _ hR2 (by omega)).mono ?_
          rintro e w1 ⟨rfl, hw1⟩
          have hO := OwnI.made0 w1
          have hE1 : Ext wr (w1.alloc (.cells #[] 3)) := hw1.alloc _
          go_wp2_with (first
            | (at_builtin; refine wpList_appG w1.heap.size _ rfl _ _ rfl _ [] pre rfl (by exact hO) (by simp) a pre.length c rfl rfl (hR2.ext hE1) (by simp; omega) ?_; intro v1 w2 hO1 hg1 _; have hE2 : Ext wr w2 := Ext.grown hE1 hg1 (fun k hk => by have hk2 : (some w1.heap.size : Option Nat) = some k := hk; injection hk2 with hk2; have := hw1.size; omega); have hO1 := hO1.base hw1.size)
            | (at_builtin; refine wpList_appI wr _ rfl _ _ rfl _ pre _ rfl (by exact hO1) hE2 rfl (by omega) ?_; intro v2 w3 hO2 hE3))
          have hbl : (xss ++ allTo n k pre j).length + 5 ^ k ≤ 10000 := by
            have h1 := HB.out
            have h2 : j * 5 ^ k ≤ 4 * 5 ^ k := Nat.mul_le_mul_right _ (by omega)
            rw [List.length_append]; omega
          refine (IH.out (pre ++ [(j : Int)]) W0 wr w3 u0 v2 _ (by have := HK.out; simp; omega) hown2 hW hE3 hO2 hbl).mono ?_
          rintro e w4 ⟨v4, rfl, hO4, hE4, hg4, hf4⟩
          have hn := grown_next (grown_ext hg hE3) hf.out hg4 hf4
          have hno : notIn pre j = true := by
            unfold notIn
            cases h : hasI pre (j : Int)
            · rfl
            · exact absurd (hasI_iff.1 h) (place_in.1 hp)
          clear hO hO1 hg1 hE1 hE2 hO2 hg4 hf4
          go_wp2
          exact ⟨⟨j + 1, by omega, by go_num, by rw [allTo_succ, hno, ← List.append_assoc]; exact hO4, hE4, hn.1, hn.2⟩, by simp [intOf]; omega⟩
        · go_wp2_with fail
          refine (place_spec _ _ _ _ _ hR2 (by omega)).mono ?_
          rintro e w1 ⟨rfl, hw1⟩
          have hno : notIn pre j = false := by
            unfold notIn
            cases h : hasI pre (j : Int)
            · exact absurd (place_in.2 (fun hm => by rw [hasI_iff.2 hm] at h; cases h)) (by omega)
            · rfl
          go_wp2
          exact ⟨⟨j + 1, by omega, by go_num, by rw [allTo_succ, hno]; simpa using hown2.ext hw1, hW.trans hw1, grown_ext hg hw1, hf⟩, by simp [intOf]; omega⟩
      · have hjn : j = n := by omega
        go_wp2
        go_ret
        rw [hjn] at hown2
        exact ⟨_, rfl, hown2, hW, hg, hf.out⟩

set_option maxRecDepth 100000 in
set_option maxHeartbeats 1000000 in
theorem allR_spec (w : World) (n : Nat) (n1 : 1 ≤ n) (n2 : n ≤ 5) :
    Calls Try.prog 89 #[.int .i64 n] w fun e w' => ∃ v, e = .returned v ∧ OwnSS w' w.heap.size v (allO n) ∧ Ext w w' := by
  have hin : inR (n : Int) 1 5 = true := inR_iff.2 (by omega)
  have h5 : 5 ^ n ≤ 3125 := Nat.pow_le_pow_right (n := 5) (by decide) n2
  go_enter Try.func89, Try.ntmps89
  go_wp2_with (go_at_call 96; refine (in_spec _ _ _ _).mono ?_; rintro e w1 ⟨rfl, hw1⟩)
  have hb : ([] : List (List Int)).length + 5 ^ n ≤ 10000 := by rw [List.length_nil]; omega
  have h1 := OwnSS.made0 w1
  have h2 := Ext.new w1 (.cells #[] 31)
  have hs : (w1.alloc (.cells #[] 31)).heap.size = w1.heap.size + 1 := by simp
  generalize w1.alloc (.cells #[] 31) = w2 at h1 h2 hs ⊢
  have h3 := OwnI.made0 w2
  have h4 := Ext.new w2 (.cells #[] 3)
  generalize w2.alloc (.cells #[] 3) = w3 at h3 h4 ⊢
  have h3 : OwnI w3 w2.heap.size (.slice (some ⟨w1.heap.size + 1, 0, none⟩) 0 0) [] := by rw [← hs]; exact h3
  have h := all_spec n n2 n [] w1 w2 w3 _ _ [] (Nat.zero_add n) h1 h2 h4 h3 hb
  refine h.mono ?_
  rintro e w4 ⟨v, rfl, hO, hE, _, _⟩
  rw [List.nil_append] at hO
  go_wp2
  go_ret
  exact ⟨_, rfl, hO.base hw1.size, hw1.trans hE⟩

/-- The cells of a list of n from which those from i on and below j are taken out. -/
def delF (n : Nat) (f : Nat → Value) (i j t : Nat) : Value := if t < i then f t else if t + (j - i) < n then f (t + (j - i)) else .int .i64 0

set_option maxRecDepth 100000 in
set_option maxHeartbeats 4000000 in
theorem del_impl (w : World) (g n c i j : Nat) (f : Nat → Value) (hB : BlkF w g n f) (hij : i < j) (hj : j ≤ n) (hc : n ≤ c) (h1 : ∀ t, t < n → (f t).oneCell' = true) :
    Calls Try.prog 77 #[.slice (some ⟨g, 0, none⟩) n c, .int .i64 i, .int .i64 j] w fun e w' => e = .returned (.slice (some ⟨g, 0, none⟩) (n - (j - i)) c) ∧ BlkF w' g n (delF n f i j) ∧ Only g w w' := by
  obtain ⟨i0, hi, hz0, hz1, hz2⟩ := info_parts info_int
  obtain ⟨news, hnews⟩ : ∃ news : List Value, news = (List.range (n - j)).map (fun t => f (j + t)) := ⟨_, rfl⟩
  have hlen : news.length = n - j := by rw [hnews]; simp
  have hget : ∀ t, t < n - j → news[t]? = some (f (j + t)) := fun t ht => by rw [hnews]; simp [ht]
  have hBd : BlkF w.drew g n f := hB.ext ((Ext.refl w).drew)
  obtain ⟨A, hA, hsrc⟩ : ∃ A : Addr, (if c = j then some (⟨g, 0, none⟩ : Addr) else some ⟨g, j, none⟩) = some A ∧ Hid (∀ (t : Nat) u, news[t]? = some u → w.drew.cell? (A.add t) = some u) := by
    by_cases h : c = j
    · refine ⟨⟨g, 0, none⟩, by simp [h], fun t u hu => ?_⟩
      have := lt_of_at hu
      omega
    · refine ⟨⟨g, j, none⟩, by simp [h], fun t u hu => ?_⟩
      have ht := lt_of_at hu
      rw [hlen] at ht
      rw [hget t ht] at hu
      injection hu with hu
      rw [Addr.add_lit, ← hu]
      exact hBd.cell (j + t) (by omega)
  have s1 : Hid (news.length = (n - j) * 1) := by show _ = _; rw [Nat.mul_one]; exact hlen
  have s2 : Hid (∀ u ∈ news, u.oneCell' = true) := by
    intro u hu
    rw [hnews, List.mem_map] at hu
    obtain ⟨t, ht, rfl⟩ := hu
    have := List.mem_range.1 ht
    exact h1 _ (by omega)
  have s3 : Hid (∀ t, t < news.length → (w.drew.cell? ⟨g, 0 + i * 1 + t, none⟩).isSome = true ∧ w.drew.frozen? ⟨g, 0 + i * 1 + t, none⟩ = false) := by
    intro t ht
    rw [hlen] at ht
    rw [Nat.mul_one, Nat.zero_add]
    exact ⟨by rw [hBd.cell (i + t) (by omega)]; rfl, hBd.fr _⟩
  obtain ⟨W1, hW1⟩ : ∃ W1 : World, W1 = w.drew.setCells g (0 + i * 1) news := ⟨_, rfl⟩
  have hB1 : BlkF W1 g n (fun t => if i ≤ t ∧ t < i + (n - j) then f (j + (t - i)) else f t) := by
    have h := BlkF.setCells news w.drew f (0 + i * 1) hBd (by rw [hlen]; omega)
    rw [← hW1] at h
    refine h.congr (fun t ht => ?_)
    rw [hlen]
    by_cases e : i ≤ t ∧ t < i + (n - j)
    · have e' : 0 + i * 1 ≤ t ∧ t < 0 + i * 1 + (n - j) := by omega
      rw [if_pos e, if_pos e', List.getD_eq_getElem?_getD, hget _ (by omega)]
      simp
    · have e' : ¬ (0 + i * 1 ≤ t ∧ t < 0 + i * 1 + (n - j)) := by omega
      rw [if_neg e, if_neg e']
  have hO1 : Only g w W1 := by
    have key : ∀ (cs : List Value) (w0 : World) (o : Nat), Only g w w0 → Only g w (w0.setCells g o cs) := by
      intro cs
      induction cs with
      | nil => intro w0 o h; exact h
      | cons x cs ih => intro w0 o h; exact ih _ _ (h.setCell o x)
    rw [hW1]
    exact key _ _ _ (Only.of_ext ((Ext.refl w).drew))
  have hcl : ∀ ty, (Builtin.clear_ #[31] ty #[.slice (some ⟨g, i + (n - j), none⟩) (n - (i + (n - j))) (c - (i + (n - j)))]).run Try.prog W1 = .ok (.tuple #[]) (W1.setCells g (i + (n - j)) (List.replicate (n - (i + (n - j))) (.int .i64 0))) :=
    fun ty => Lib.run_clear_slice W1 _ _ ty _ Try.underlying31 (fun w => by kernel_rfl) rfl rfl g (i + (n - j)) _ _ (by omega) (fun t ht => by rw [hB1.cell _ (by omega)]; rfl) (fun t ht => hB1.fr _)
  have HB := hide hB1
  have HO := hide hO1
  have hW : Hid (W1 = w.drew.setCells g (0 + i * 1) news) := hW1
  have hic : i ≤ c := by omega
  have hjc : j ≤ c := by omega
  have hin : i ≤ n := by omega
  clear hW1 hB1 hO1 hBd hB hget hnews hlen h1
  go_enter Try.func77, Try.ntmps77
  go_wp2_with fail
  go_region_law (refine step_append_room rfl (.tmp 22) (.tmp 25) 31 rfl 3 i0 1 Try.underlying31 hi hz1 g 0 i c (by simp [Act.eval, Act.put]) A (n - j) (c - j) news (by simp [Act.eval, Act.put]) s1.out hsrc.out s2.out (by omega) s3.out ?_; rw [← hW.out])
  go_wp2
  go_ret
  have hfin := BlkF.setCells (List.replicate (n - (i + (n - j))) (.int .i64 0)) W1 _ (i + (n - j)) HB.out (by rw [List.length_replicate]; omega)
  have key : ∀ (cs : List Value) (w0 : World) (o : Nat), Only g w w0 → Only g w (w0.setCells g o cs) := by
    intro cs
    induction cs with
    | nil => intro w0 o h; exact h
    | cons x cs ih => intro w0 o h; exact ih _ _ (h.setCell o x)
  refine ⟨by rw [show n - (j - i) = i + (n - j) by omega]; rfl, hfin.congr (fun t ht => ?_), key _ _ _ HO.out⟩
  unfold delF
  rw [List.length_replicate]
  by_cases e1 : i + (n - j) ≤ t ∧ t < i + (n - j) + (n - (i + (n - j)))
  · rw [if_pos e1, List.getD_eq_getElem?_getD, List.getElem?_replicate, if_pos (by omega), if_neg (by omega), if_neg (by omega)]; rfl
  · rw [if_neg e1]
    by_cases e2 : t < i
    · rw [if_neg (by omega), if_pos e2]
    · rw [if_pos (by omega), if_neg e2, if_pos (by omega), show j + (t - i) = t + (j - i) by omega]

set_option maxRecDepth 100000 in
theorem BlkF.le {w : World} {g n m : Nat} {f : Nat → Value} (h : BlkF w g n f) (hm : m ≤ n) : BlkF w g m f := ⟨h.lt, h.fr, fun o ho => h.cell o (by omega)⟩
set_option maxRecDepth 100000 in
/-- One is taken out. -/
theorem del1 (w : World) (g n c i : Nat) (f : Nat → Value) (hB : BlkF w g n f) (hi : i < n) (hc : n ≤ c) (h1 : ∀ t, t < n → (f t).oneCell' = true) :
    Calls Try.prog 77 #[.slice (some ⟨g, 0, none⟩) n c, .int .i64 (i : Int), .int .i64 ((i : Int) + 1)] w fun e w' => e = .returned (.slice (some ⟨g, 0, none⟩) (n - 1) c) ∧ BlkF w' g (n - 1) (fun t => if t < i then f t else f (t + 1)) ∧ Only g w w' := by
  have h := del_impl w g n c i (i + 1) f hB (by omega) (by omega) hc h1
  have e : ((i + 1 : Nat) : Int) = (i : Int) + 1 := by omega
  rw [e] at h
  refine h.mono ?_
  rintro e w' ⟨rfl, hB', hO⟩
  refine ⟨by rw [show n - (i + 1 - i) = n - 1 by omega], (hB'.le (by omega)).congr (fun t ht => ?_), hO⟩
  unfold delF
  by_cases e2 : t < i
  · rw [if_pos e2, if_pos e2]
  · rw [if_neg e2, if_neg e2, if_pos (by omega), show t + (i + 1 - i) = t + 1 by omega]

def iotaL (n : Nat) : List Int := rowL n (fun j => (j : Int))
set_option maxRecDepth 100000 in
theorem iotaL_up (n : Nat) : iotaL n = upL n (fun _ => true) := by
  unfold iotaL rowL upL
  rw [List.filter_eq_self.2 (fun _ _ => rfl)]
set_option maxRecDepth 100000 in
set_option maxHeartbeats 1000000 in
theorem indices_impl (w : World) (n : Nat) (n2 : n ≤ 5) :
    Calls Try.prog 68 #[.int .i64 n] w fun e w' => e = .returned (.slice (some ⟨w.heap.size, 0, none⟩) n n) ∧ BlkF w' w.heap.size n (fun o => .int .i64 (o : Int)) ∧ Ext w w' := by
  obtain ⟨i0, hi, hz0, hz1, hz2⟩ := info_parts info_int
  have hmk := fun W => run_make_rowN (P := Try.prog) 31 3 i0 _ Try.underlying31 hi hz0 .i64 .i64 n n (Nat.le_refl _) (by rw [hz2]; omega) (by omega) W
  rw [hz1, Nat.mul_one] at hmk
  go_enter Try.func68, Try.ntmps68
  go_wp2_with fail
  clear hmk
  have hB := BlkF.new w (madeCells #[.int .i64 0] n) 3
  rw [size_madeCells] at hB
  have hE := Ext.new w (.cells (madeCells #[.int .i64 0] n) 3)
  have hB := hB.congr (f' := fun o => .int .i64 (if o < 0 then (o : Int) else 0)) (fun o ho => by rw [if_neg (by omega)]; exact made_int n o ho)
  generalize w.alloc (.cells (madeCells #[.int .i64 0] n) 3) = W1 at hB hE ⊢
  go_loopw [4, 9] (fun _ i wr => ∃ j : Nat, j ≤ n ∧ i = .int .i64 j ∧ BlkF wr w.heap.size n (fun o => .int .i64 (if o < j then (o : Int) else 0)) ∧ Ext w wr) (fun _ i _ => n - (intOf i).toNat)
  case atStart => exact ⟨0, Nat.zero_le _, rfl, hB, hE⟩
  case round =>
    clear hB hE
    obtain ⟨i, hi, rfl, hB, hwr⟩ := hrel
    by_cases hlt : i < n
    · have d0 := hB.cell i hlt
      rw [if_neg (by omega)] at d0
      have z0 := hB.fr i
      have HB := hide hB
      clear hB
      go_wp2
      refine ⟨⟨i + 1, by omega, by go_num, (HB.out.set i hlt _).congr (fun o ho => ?_), Ext.setCell hwr (Nat.le_refl _) _⟩, by simp [intOf]; omega⟩
      by_cases e : o = i
      · subst e; rw [if_pos rfl, if_pos (by omega)]
      · rw [if_neg e]
        by_cases e2 : o < i
        · rw [if_pos e2, if_pos (by omega)]
        · rw [if_neg e2, if_neg (by omega)]
    · have hin : i = n := by omega
      go_wp2
      go_ret
      exact ⟨rfl, hB.congr (fun o ho => by rw [if_pos (by omega)]), hwr⟩

set_option maxRecDepth 100000 in
/-- v reads as the list, in a block that may be written. -/
theorem BlkF.rdL {w : World} {g n : Nat} {f : Nat → Value} {xs : List Int} (h : BlkF w g n f) (hn : xs.length ≤ n) (hf : ∀ (j : Nat) (x : Int), xs[j]? = some x → f j = .int .i64 x) : RdI w (some ⟨g, 0, none⟩) xs := fun _ => ⟨g, 0, rfl, fun j x hx => by rw [Nat.zero_add, h.cell j (by have := lt_of_at hx; omega), hf j x hx]⟩

set_option maxRecDepth 100000 in
theorem BlkF.grown {w w' : World} {g n : Nat} {f : Nat → Value} {row : Option Nat} (h : BlkF w g n f) (hg : w.grownBy w' row) (hr : ∀ k, row = some k → k ≠ g) : BlkF w' g n f := by
  have hgr : w'.heap[g]? = w.heap[g]? := hg.block g h.lt (fun e => hr g e.symm rfl)
  exact ⟨Nat.lt_of_lt_of_le h.lt hg.size, fun o => (World.frozen?_of_block (w := w) hgr).trans (h.fr o), fun o ho => (World.cell?_of_block (w := w) hgr).trans (h.cell o ho)⟩

def elimO (sz : Int) (vs : List Vt) (W : List Int → Int → Int) : List Int := if profOk sz vs then elimL sz.toNat W sz.toNat else []
set_option maxRecDepth 100000 in
theorem elimO_len (sz : Int) (vs : List Vt) (W : List Int → Int → Int) : (elimO sz vs W).length ≤ 5 := by
  unfold elimO
  cases h0 : profOk sz vs
  · simp
  · obtain ⟨n, rfl, n1, n2⟩ := prof_nat h0
    simp [elimL_len]; omega
set_option maxRecDepth 100000 in
theorem pickV_take {f : Int → Int} {xs : List Int} {k : Nat} {x : Int} (h : xs[k]? = some x) : pickV f (xs.take (k + 1)) = if pickV f (xs.take k) < 0 ∨ f x ≤ f (pickV f (xs.take k)) then x else pickV f (xs.take k) := by
  rw [take_at h, pickV_snoc]

end Go.Proofs.Ytkbbcglghfddjaa
