/- The table of places. -/
import Derived.Test.YtpicmaggkginkaaMgn
namespace Go.Proofs.Ytpicmaggkginkaa
open Go.RowKit

set_option maxRecDepth 100000 in
theorem len_le : ∀ (n : Nat) (r : List Int), r.Nodup → (∀ x ∈ r, 0 ≤ x ∧ x < (n : Int)) → r.length ≤ n
  | 0, r, _, h => by
    cases r with
    | nil => simp
    | cons x r => have := h x (by simp); omega
  | n + 1, r, hd, h => by
    have h1 := len_le n (r.erase (n : Int)) (hd.erase _) (fun x hx => by
      have h2 := h x (List.mem_of_mem_erase hx)
      have h3 : x ≠ (n : Int) := fun e => by subst e; exact hd.not_mem_erase hx
      omega)
    by_cases hm : (n : Int) ∈ r
    · rw [List.length_erase_of_mem hm] at h1; omega
    · rw [List.erase_of_not_mem hm] at h1; omega
set_option maxRecDepth 100000 in
theorem rk_all {n : Nat} {r : List Int} (h : rkOk n r = true) {a : Nat} (ha : a < n) : (a : Int) ∈ r := by
  by_cases hm : (a : Int) ∈ r
  · exact hm
  · have h1 := len_le n ((a : Int) :: r) (List.nodup_cons.2 ⟨hm, rk_nodup h⟩) (fun x hx => by
      rcases List.mem_cons.1 hx with rfl | hx
      · omega
      · have := rk_mem h hx; omega)
    have h2 := (rk_len h).1
    simp at h1; omega
set_option maxRecDepth 100000 in
theorem nodup_inj {r : List Int} (h : r.Nodup) {i j : Nat} {x : Int} (hi : r[i]? = some x) (hj : r[j]? = some x) : i = j := by
  obtain ⟨hil, hi⟩ := List.getElem?_eq_some_iff.1 hi
  obtain ⟨hjl, hj⟩ := List.getElem?_eq_some_iff.1 hj
  rcases Nat.lt_trichotomy i j with h1 | h1 | h1
  · exact absurd (hi.trans hj.symm) (List.pairwise_iff_getElem.1 h i j hil hjl h1)
  · exact h1
  · exact absurd (hj.trans hi.symm) (List.pairwise_iff_getElem.1 h j i hjl hil h1)
set_option maxRecDepth 100000 in
/-- Where a candidate stands in a valid ranking. -/
theorem place_at {n : Nat} {r : List Int} (h : rkOk n r = true) {a : Nat} (ha : a < n) : ∃ k : Nat, k < n ∧ placeI r a = k ∧ r[k]? = some (a : Int) ∧ ∀ j, r[j]? = some (a : Int) → j = k := by
  have hm := rk_all h ha
  have hl := (rk_len h).1
  unfold placeI findI
  cases hf : r.findIdx? (fun y => (a : Int) == y) with
  | none =>
    rw [List.findIdx?_eq_none_iff] at hf
    have := hf _ hm
    simp at this
  | some k =>
    rw [List.findIdx?_eq_some_iff_getElem] at hf
    obtain ⟨hk, h1, _⟩ := hf
    have h2 : r[k]? = some (a : Int) := by rw [List.getElem?_eq_getElem hk]; simp at h1; rw [← h1]
    exact ⟨k, by omega, rfl, h2, fun j hj => nodup_inj (rk_nodup h) hj h2⟩

set_option maxRecDepth 100000 in
theorem pref_self (r : List Int) (x : Int) : prefB r x x = false := by simp [prefB]
set_option maxRecDepth 100000 in
theorem pref_tot {n : Nat} {r : List Int} (h : rkOk n r = true) {x y : Nat} (hx : x < n) (hy : y < n) (hne : x ≠ y) : prefB r x y = !prefB r y x := by
  obtain ⟨p, _, h1, h2, _⟩ := place_at h hx
  obtain ⟨q, _, h3, h4, _⟩ := place_at h hy
  have hpq : p ≠ q := fun e => by subst e; rw [h2] at h4; injection h4 with h4; omega
  unfold prefB
  rw [h1, h3]
  by_cases h5 : p < q
  · have h6 : ¬ q < p := by omega
    simp [h5, h6]
  · have h6 : q < p := by omega
    simp [h5, h6]

def plcP (a k : Nat) (r : List Int) : Bool := r[k]? == some (a : Int)
def plcV (vs : List Vt) (a k : Nat) : Int := sumV (plcP a k) vs
def plcO (sz : Int) (vs : List Vt) : List (List Int) := if profOk sz vs then tabL sz.toNat (plcV vs) else []
set_option maxRecDepth 100000 in
theorem plcO_bd (sz : Int) (vs : List Vt) : (plcO sz vs).length ≤ 1000 ∧ ∀ x ∈ plcO sz vs, x.length ≤ 100 := by
  unfold plcO
  cases h0 : profOk sz vs
  · simp
  · obtain ⟨n, rfl, n1, n2⟩ := prof_nat h0
    simpa using tabL_bd n2

set_option maxRecDepth 100000 in
theorem OwnI.made (w : World) (n : Nat) (hn : n ≤ 2000000) : OwnI (w.alloc (.cells (madeCells #[.int .i64 0] n) 3)) w.heap.size (.slice (some ⟨w.heap.size, 0, none⟩) n n) (rowL n (fun _ => 0)) := by
  have h := World.ownsRow_lit (base := w.heap.size) (e := 3) (size := 1) w (madeCells #[.int .i64 0] n) n (Nat.le_refl _) (by unfold maxLen; omega) (by rw [size_madeCells]; omega)
  unfold OwnI
  have e : (rowL n (fun _ => 0)).map (Value.int .i64) = (madeCells #[Value.int .i64 0] n).toList := by
    have h0 := toList_madeCells_one (.int .i64 0) n
    have h1 : (madeCells #[Value.int .i64 0] n).toList = List.replicate n (.int .i64 0) := h0
    rw [h1]
    apply List.ext_getElem?
    intro j
    by_cases hj : j < n
    · simp [rowL, hj]
    · simp [rowL, hj]
  rw [rowL_len, e]
  exact h
set_option maxRecDepth 100000 in
theorem rowL_set {n : Nat} {f g : Nat → Int} {k : Nat} {y : Int} (hg : ∀ j, j < n → g j = if j = k then y else f j) : (rowL n f).set k y = rowL n g := by
  apply List.ext_getElem?
  intro j
  by_cases hj : j < n
  · by_cases e : k = j
    · subst e
      rw [List.getElem?_set_self (by rw [rowL_len]; exact hj), rowL_at hj, hg k hj, if_pos rfl]
    · rw [List.getElem?_set_ne e, rowL_at hj, rowL_at hj, hg j hj, if_neg (Ne.symm e)]
  · rw [List.getElem?_eq_none (by rw [List.length_set, rowL_len]; omega), List.getElem?_eq_none (by rw [rowL_len]; omega)]

set_option maxRecDepth 100000 in
set_option maxHeartbeats 4000000 in
theorem plc_spec (w : World) (sz : Int) (a : Option Addr) (c : Nat) (vs : List Vt) (hR : RdV w a vs) :
    Calls Try.prog 162 #[.agg #[.int .i64 sz, .slice a vs.length c]] w fun e w' => ∃ v, e = .returned v ∧ WrSS w' w.heap.size v (plcO sz vs) ∧ Ext w w' := by
  have q0 := new0 w (.int .i64 sz) [.slice a vs.length c] 30
  have q1 := new1 w (.int .i64 sz) (.slice a vs.length c) [] 30
  cases h0 : profOk sz vs
  · go_enter Try.func162, Try.ntmps162
    go_wp2_with (go_at_call 51; refine (prof_spec _ _ _ _ _ (hR.ext (by repeat (first | exact Ext.refl _ | assumption | refine Ext.alloc ?_ _ | refine Ext.drew ?_ | refine Ext.trans ?_ (by assumption))))).mono ?_; rintro e w1 ⟨rfl, hw1⟩; have q0 := Ext.keep (w' := w1) (by repeat (first | exact Ext.refl _ | assumption | refine Ext.alloc ?_ _ | refine Ext.drew ?_ | refine Ext.trans ?_ (by assumption))) q0; have q1 := Ext.keep (w' := w1) (by repeat (first | exact Ext.refl _ | assumption | refine Ext.alloc ?_ _ | refine Ext.drew ?_ | refine Ext.trans ?_ (by assumption))) q1)
    go_ret
    exact ⟨_, rfl, by simp [plcO, h0]; exact WrSS.nil _ _ _ _, (by repeat (first | exact Ext.refl _ | assumption | refine Ext.alloc ?_ _ | refine Ext.drew ?_ | refine Ext.trans ?_ (by assumption)))⟩
  obtain ⟨n, rfl, n1, n2⟩ := prof_nat h0
  have HS := hide (prof_small h0)
  have hvl := (prof_small h0).1
  obtain ⟨i0, hi, hz0, hz1, hz2⟩ := info_parts info_int
  have hmk := fun W => run_make_rowN (P := Try.prog) 37 3 i0 _ Try.underlying37 hi hz0 .i64 .i64 n n (Nat.le_refl _) (by rw [hz2]; omega) (by omega) W
  rw [hz1, Nat.mul_one] at hmk
  go_enter Try.func162, Try.ntmps162
  go_wp2_with (go_at_call 51; refine (prof_spec _ _ _ _ _ (hR.ext (by repeat (first | exact Ext.refl _ | assumption | refine Ext.alloc ?_ _ | refine Ext.drew ?_ | refine Ext.trans ?_ (by assumption))))).mono ?_; rintro e w1 ⟨rfl, hw1⟩; have q0 := Ext.keep (w' := w1) (by repeat (first | exact Ext.refl _ | assumption | refine Ext.alloc ?_ _ | refine Ext.drew ?_ | refine Ext.trans ?_ (by assumption))) q0; have q1 := Ext.keep (w' := w1) (by repeat (first | exact Ext.refl _ | assumption | refine Ext.alloc ?_ _ | refine Ext.drew ?_ | refine Ext.trans ?_ (by assumption))) q1)
  have hw : Ext w w1 := (by repeat (first | exact Ext.refl _ | assumption | refine Ext.alloc ?_ _ | refine Ext.drew ?_ | refine Ext.trans ?_ (by assumption)))
  have hR0 := hR.ext hw
  have hO := OwnSS.made0 w1
  have h20 := Ext.new w1 (.cells #[] 37)
  obtain ⟨wb, hwb⟩ : ∃ wb : World, wb = w1 := ⟨_, rfl⟩
  subst hwb
  generalize wb.alloc (.cells #[] 37) = W0 at hO h20 ⊢
  go_loopw [3, 4, 5, 7, 8, 23, 24, 25] (fun v i _ _ _ _ _ _ wr => ∃ k : Nat, k ≤ n ∧ i = .int .i64 k ∧ OwnSS wr wb.heap.size v (tabTo n k (plcV vs)) ∧ Ext wb wr) (fun _ i _ _ _ _ _ _ _ => n - (intOf i).toNat)
  case atStart => exact ⟨0, Nat.zero_le _, rfl, hO, h20⟩
  case round =>
    clear h20 hO
    obtain ⟨i, hi, rfl, hown, hwr⟩ := hrel
    have r0 := hwr.keep q0
    have r1 := hwr.keep q1
    have htl := tabTo_len n i (plcV vs)
    by_cases hit : i < n
    · go_wp2_with fail
      have hO := OwnI.made wr n (by omega)
      have hE := Ext.new wr (.cells (madeCells #[.int .i64 0] n) 3)
      obtain ⟨wo, hwo⟩ : ∃ wo : World, wo = wr := ⟨_, rfl⟩
      subst hwo
      generalize wo.alloc (.cells (madeCells #[.int .i64 0] n) 3) = W1 at hO hE ⊢
      go_loopw [7, 8, 25] (fun _ _ m wr => ∃ k : Nat, k ≤ vs.length ∧ m = .int .i64 k ∧ OwnI wr wo.heap.size (.slice (some ⟨wo.heap.size, 0, none⟩) n n) (rowL n (fun j => plcV (vs.take k) i j)) ∧ Ext wo wr) (fun _ _ m _ => vs.length - (intOf m).toNat)
      case atStart => exact ⟨0, Nat.zero_le _, rfl, by simpa [plcV, sumV] using hO, hE⟩
      case round =>
        clear hO hE r0 r1
        obtain ⟨k, hk, rfl, hrow, hwr'⟩ := hrel
        by_cases hlt : k < vs.length
        · obtain ⟨v, hx⟩ := at_of_lt hlt
          obtain ⟨b, off, a', c', rfl, c0, c1, hc', hRx⟩ := (hR0.ext (hwr.trans hwr')).at_ hx
          obtain ⟨x0, x1, x2⟩ := HS.out.2 v (List.mem_of_getElem? hx)
          obtain ⟨p, hp, hpl, hpa, hpu⟩ := place_at x0 hit
          have hvl := (rk_len x0).2
          obtain ⟨s1, s2⟩ := sumV_bd HS.out k hk (p := plcP i p)
          obtain ⟨d0, z0, hst⟩ := hrow.storeAt (rowL_at (f := fun j => plcV (vs.take k) i j) hp)
          have HX := hide hx
          have HU := hide hpu
          have HT := hide hst
          have y2 : IntKind.i64.wrap (plcV (vs.take k) i p + v.2) = plcV (vs.take (k + 1)) i p := by
            rw [IntWalk.i64_left, IntWalk.wrap64_in _ (by unfold plcV; omega)]; unfold plcV; rw [sumV_at hx, if_pos (by simp [plcP, hpa])]
          have y1 : wrap64 (plcV (vs.take k) i p + v.2) = plcV (vs.take (k + 1)) i p := by rw [← IntWalk.i64_left]; exact y2
          clear hx hpu hst x0 x1 x2 s1 s2 hpa
          have HP := hide hpl
          clear hpl
          have e0 := new0 wr (.slice a' v.1.length c') [.int .i64 v.2] 88
          have e1 := new1 wr (.slice a' v.1.length c') (.int .i64 v.2) [] 88
          go_wp2_with fail
          refine (place_spec _ a' c' v.1 _ (hRx.ext (by repeat (first | exact Ext.refl _ | assumption | refine Ext.alloc ?_ _ | refine Ext.drew ?_ | refine Ext.trans ?_ (by assumption)))) (by omega)).mono ?_
          rintro e w3 ⟨rfl, hw3⟩
          rw [HP.out]
          have d1 := Ext.keep (w' := w3) (by repeat (first | exact Ext.refl _ | assumption | refine Ext.alloc ?_ _ | refine Ext.drew ?_ | refine Ext.trans ?_ (by assumption))) d0
          have z1 : w3.frozen? ⟨wo.heap.size, p, none⟩ = false := ((show Ext wr w3 from (by repeat (first | exact Ext.refl _ | assumption | refine Ext.alloc ?_ _ | refine Ext.drew ?_ | refine Ext.trans ?_ (by assumption)))).frozenS _ (by rw [d0]; rfl)).trans z0
          have e1 := hw3.keep e1
          have hrow3 := hide (hrow.ext (show Ext wr w3 from (by repeat (first | exact Ext.refl _ | assumption | refine Ext.alloc ?_ _ | refine Ext.drew ?_ | refine Ext.trans ?_ (by assumption)))))
          clear d0 z0 HT hrow
          go_wp2
          refine wp_region_X (by kernel_rfl) (by kernel_rfl) ?_
          repeat' (refine wpX_stepQ (fun K hK => ?_)
                   go_simp
                   try (rw [if_neg (by intro h; simp [undef] at h)])
                   try split
                   all_goals
                     first
                     | (refine hK _ ?_
                        clear hK K)
                     | (apply Exists.intro
                        refine ⟨fun wq hwq => ?_, hK _ ?_⟩
                        · have hcq := hwq.cellS
                          go_simp
                          first
                          | exact ⟨Ext.refl _, rfl⟩
                        clear hK K))
          refine wpX_stepL rfl (by kernel_rfl) (by kernel_rfl) (by kernel_rfl) (fun K hK wz hwz => ?_)
          have hcz := hwz.cellS
          have hfz := hwz.frozenS
          go_simp
          refine hK _ _ ?_
          clear hK K
          go_wp2
          have hst := ((hrow3.out.ext hwz).storeAt (rowL_at (f := fun j => plcV (vs.take k) i j) hp)).2.2 (plcV (vs.take (k + 1)) i p)
          rw [rowL_set (g := fun j => plcV (vs.take (k + 1)) i j) (fun j hj => by
            by_cases e : j = p
            · rw [if_pos e, e]
            · rw [if_neg e]
              show sumV _ _ = sumV _ _
              rw [sumV_at HX.out, if_neg (by simp only [plcP, beq_iff_eq]; exact fun e2 => e (HU.out j e2))]; simp)] at hst
          exact ⟨⟨k + 1, by omega, by go_num, hst, Ext.setCell (show Ext wo wz from (by repeat (first | exact Ext.refl _ | assumption | refine Ext.alloc ?_ _ | refine Ext.drew ?_ | refine Ext.trans ?_ (by assumption)))) (Nat.le_refl _) _⟩, by simp [intOf]; omega⟩
        · have hkn : vs.take k = vs := List.take_of_length_le (by omega)
          rw [hkn] at hrow
          go_wp2_with (at_builtin; refine wpList_appS wb wo _ rfl _ _ rfl _ (tabTo n i (plcV vs)) _ _ rfl (by exact hown) hwr hwr' (by exact hrow) rfl (by omega) ?_; intro v' w3 hown3 hw3)
          exact ⟨⟨i + 1, by omega, by go_num, by rw [tabTo_succ]; exact hown3, hw3⟩, by simp [intOf]; omega⟩
    · have hin : i = n := by omega
      go_wp2
      go_ret
      rw [hin, tabTo_n] at hown
      exact ⟨_, rfl, by simpa [plcO, h0] using (hown.base hw.size).wr, hw.trans hwr⟩

end Go.Proofs.Ytpicmaggkginkaa
