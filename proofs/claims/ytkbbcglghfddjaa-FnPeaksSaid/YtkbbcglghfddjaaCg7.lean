/- The matrix of margins. The table of places. Condorcet winner and loser, the unbeaten. -/
import Derived.Test.YtkbbcglghfddjaaCg4
import Derived.Test.YtkbbcglghfddjaaCg6
namespace Go.Proofs.Ytkbbcglghfddjaa
open Go.RowKit

def tabL (n : Nat) (M : Nat → Nat → Int) : List (List Int) := (List.range n).map (fun i => rowL n (M i))
set_option maxRecDepth 100000 in
theorem tabL_len (n : Nat) (M : Nat → Nat → Int) : (tabL n M).length = n := by simp [tabL]
set_option maxRecDepth 100000 in
theorem tabL_at {n i : Nat} {M : Nat → Nat → Int} (h : i < n) : (tabL n M)[i]? = some (rowL n (M i)) := by simp [tabL, h]
set_option maxRecDepth 100000 in
theorem tabL_row {n : Nat} {M : Nat → Nat → Int} {x : List Int} (h : x ∈ tabL n M) : x.length = n := by
  unfold tabL at h
  rw [List.mem_map] at h
  obtain ⟨i, _, rfl⟩ := h
  exact rowL_len _ _
set_option maxRecDepth 100000 in
theorem tabL_bd {n : Nat} {M : Nat → Nat → Int} (hn : n ≤ 5) : (tabL n M).length ≤ 1000 ∧ ∀ x ∈ tabL n M, x.length ≤ 100 :=
  ⟨by rw [tabL_len]; omega, fun x hx => by rw [tabL_row hx]; omega⟩
/-- The first k rows. -/
def tabTo (n k : Nat) (M : Nat → Nat → Int) : List (List Int) := (List.range k).map (fun i => rowL n (M i))
set_option maxRecDepth 100000 in
theorem tabTo_succ (n k : Nat) (M : Nat → Nat → Int) : tabTo n (k + 1) M = tabTo n k M ++ [rowL n (M k)] := by simp [tabTo, List.range_succ]
set_option maxRecDepth 100000 in
theorem tabTo_len (n k : Nat) (M : Nat → Nat → Int) : (tabTo n k M).length = k := by simp [tabTo]
set_option maxRecDepth 100000 in
theorem tabTo_n (n : Nat) (M : Nat → Nat → Int) : tabTo n n M = tabL n M := rfl

def mgnV (vs : List Vt) (i j : Nat) : Int := marginV vs i j
def mgnO (sz : Int) (vs : List Vt) : List (List Int) := if profOk sz vs then tabL sz.toNat (mgnV vs) else []
set_option maxRecDepth 100000 in
theorem mgnO_bd (sz : Int) (vs : List Vt) : (mgnO sz vs).length ≤ 1000 ∧ ∀ x ∈ mgnO sz vs, x.length ≤ 100 := by
  unfold mgnO
  cases h0 : profOk sz vs
  · simp
  · obtain ⟨n, rfl, n1, n2⟩ := prof_nat h0
    simpa using tabL_bd n2

/-- Rows below i are whole, row i holds m cells, the others none. -/
def rowsT (n : Nat) (M : Nat → Nat → Int) (i m o : Nat) : List Int := if o < i then rowL n (M o) else if o = i then rowL m (M i) else []
set_option maxRecDepth 100000 in
theorem rowsT_zero (n : Nat) (M : Nat → Nat → Int) (o : Nat) : rowsT n M 0 0 o = [] := by
  unfold rowsT; rw [if_neg (by omega)]; split <;> simp [rowL]
set_option maxRecDepth 100000 in
theorem rowsT_at (n : Nat) (M : Nat → Nat → Int) (i m : Nat) : rowsT n M i m i = rowL m (M i) := by
  unfold rowsT; rw [if_neg (by omega), if_pos rfl]
set_option maxRecDepth 100000 in
theorem rowsT_far (n : Nat) (M : Nat → Nat → Int) (i m m' : Nat) {o : Nat} (h : o ≠ i) : rowsT n M i m o = rowsT n M i m' o := by
  unfold rowsT; rw [if_neg h, if_neg h]
set_option maxRecDepth 100000 in
theorem rowsT_done (n : Nat) (M : Nat → Nat → Int) (i o : Nat) : rowsT n M i n o = rowsT n M (i + 1) 0 o := by
  unfold rowsT
  by_cases h1 : o < i
  · rw [if_pos h1, if_pos (by omega)]
  · by_cases h2 : o = i
    · subst h2; rw [if_neg h1, if_pos rfl, if_pos (by omega)]
    · rw [if_neg h1, if_neg h2, if_neg (by omega)]; split <;> simp [rowL]
set_option maxRecDepth 100000 in
theorem rowsT_all {n o : Nat} (M : Nat → Nat → Int) (h : o < n) : rowsT n M n 0 o = rowL n (M o) := by
  unfold rowsT; rw [if_pos h]
set_option maxRecDepth 100000 in
theorem rowsT_begin (n : Nat) (M : Nat → Nat → Int) (i : Nat) : rowsT n M i 0 i = [] := by rw [rowsT_at]; simp [rowL]

set_option maxRecDepth 100000 in
theorem made_row (n j : Nat) (hj : j < n) : (madeCells #[Value.slice none 0 0] n).getD j undef = .slice none 0 0 := by
  have h := toList_madeCells_one (.slice none 0 0) n
  have h2 : (madeCells #[Value.slice none 0 0] n).toList[j]? = some (.slice none 0 0) := by rw [h]; simp [hj]
  rw [Array.getElem?_toList] at h2
  simp [h2]
set_option maxRecDepth 100000 in
/-- A matrix of empty rows, just made. -/
theorem Mat.made (w : World) (n : Nat) : Mat (w.alloc (.cells (madeCells #[.slice none 0 0] n) 31)) w.heap.size w.heap.size n (fun _ => .slice none 0 0) (fun _ => []) := by
  have h := BlkF.new w (madeCells #[.slice none 0 0] n) 31
  rw [size_madeCells] at h
  exact ⟨Nat.le_refl _, h.congr (fun o ho => made_row n o ho), fun o ho => OwnI.nil _ _, (fun o ho e => by cases e), (fun o o' k _ _ _ e => by cases e)⟩

set_option maxRecDepth 100000 in
set_option maxHeartbeats 4000000 in
theorem mgn_impl (w : World) (sz : Int) (a : Option Addr) (c : Nat) (vs : List Vt) (hR : RdV w a vs) :
    Calls Try.prog 13 #[.agg #[.int .i64 sz, .slice a vs.length c]] w fun e w' => ∃ v, e = .returned v ∧ WrSS w' w.heap.size v (mgnO sz vs) ∧ Ext w w' := by
  have q0 := new0 w (.int .i64 sz) [.slice a vs.length c] 26
  have q1 := new1 w (.int .i64 sz) (.slice a vs.length c) [] 26
  cases h0 : profOk sz vs
  · go_enter Try.func13, Try.ntmps13
    go_wp2_with (go_at_call 17; refine (prof_impl _ _ _ _ _ (hR.ext (by repeat (first | exact Ext.refl _ | assumption | refine Ext.alloc ?_ _ | refine Ext.drew ?_ | refine Ext.trans ?_ (by assumption))))).mono ?_; rintro e w1 ⟨rfl, hw1⟩; have q0 := Ext.keep (w' := w1) (by repeat (first | exact Ext.refl _ | assumption | refine Ext.alloc ?_ _ | refine Ext.drew ?_ | refine Ext.trans ?_ (by assumption))) q0; have q1 := Ext.keep (w' := w1) (by repeat (first | exact Ext.refl _ | assumption | refine Ext.alloc ?_ _ | refine Ext.drew ?_ | refine Ext.trans ?_ (by assumption))) q1)
    go_ret
    exact ⟨_, rfl, by simp [mgnO, h0]; exact WrSS.nil _ _ _ _, (by repeat (first | exact Ext.refl _ | assumption | refine Ext.alloc ?_ _ | refine Ext.drew ?_ | refine Ext.trans ?_ (by assumption)))⟩
  obtain ⟨n, rfl, n1, n2⟩ := prof_nat h0
  have HS := hide (prof_small h0)
  obtain ⟨i0, hi, hz0, hz1, hz2⟩ := info_parts info_row
  have hmk := fun W => run_make_rowN (P := Try.prog) 35 31 i0 _ Try.underlying35 hi hz0 .i64 .i64 n n (Nat.le_refl _) (by rw [hz2]; omega) (by omega) W
  rw [hz1, Nat.mul_one] at hmk
  go_enter Try.func13, Try.ntmps13
  go_wp2_with (go_at_call 17; refine (prof_impl _ _ _ _ _ (hR.ext (by repeat (first | exact Ext.refl _ | assumption | refine Ext.alloc ?_ _ | refine Ext.drew ?_ | refine Ext.trans ?_ (by assumption))))).mono ?_; rintro e w1 ⟨rfl, hw1⟩; have q0 := Ext.keep (w' := w1) (by repeat (first | exact Ext.refl _ | assumption | refine Ext.alloc ?_ _ | refine Ext.drew ?_ | refine Ext.trans ?_ (by assumption))) q0; have q1 := Ext.keep (w' := w1) (by repeat (first | exact Ext.refl _ | assumption | refine Ext.alloc ?_ _ | refine Ext.drew ?_ | refine Ext.trans ?_ (by assumption))) q1)
  clear hmk
  have hw : Ext w w1 := (by repeat (first | exact Ext.refl _ | assumption | refine Ext.alloc ?_ _ | refine Ext.drew ?_ | refine Ext.trans ?_ (by assumption)))
  have hR0 := hR.ext hw
  have hM := Mat.made w1 n
  have h20 := Ext.new w1 (.cells (madeCells #[.slice none 0 0] n) 31)
  generalize w1.alloc (.cells (madeCells #[.slice none 0 0] n) 31) = W0 at hM h20 ⊢
  obtain ⟨wb, hwb⟩ : ∃ wb : World, wb = w1 := ⟨_, rfl⟩
  subst hwb
  go_loopw [4, 5, 14, 18, 19] (fun _ _ i _ _ wr => ∃ (k : Nat) (us : Nat → Value), k ≤ n ∧ i = .int .i64 k ∧ Hid (Mat wr wb.heap.size wb.heap.size n us (rowsT n (mgnV vs) k 0) ∧ ∀ o, k ≤ o → us o = .slice none 0 0) ∧ Ext wb wr) (fun _ _ i _ _ _ => n - (intOf i).toNat)
  case atStart => exact ⟨0, _, Nat.zero_le _, rfl, ⟨hM.congr (fun o _ => (rowsT_zero n _ o).symm), fun _ _ => rfl⟩, h20⟩
  case round =>
    clear hM h20
    obtain ⟨i, us, hi, rfl, hMM, hwr⟩ := hrel
    have r0 := hwr.keep q0
    by_cases hit : i < n
    · have hK := hide (hMM.out.1.begin (hMM.out.2 i (Nat.le_refl _)) (rowsT_begin n (mgnV vs) i))
      have hU := hide (fun o (ho : i < o) => hMM.out.2 o (Nat.le_of_lt ho))
      obtain ⟨H, hH⟩ : ∃ H : Nat, H = wr.heap.size := ⟨_, rfl⟩
      rw [← hH] at hK
      clear hMM hH
      go_wp2
      go_loopw [5, 19] (fun _ m wr => ∃ (k : Nat) (us : Nat → Value), k ≤ n ∧ m = .int .i64 k ∧ Hid (MatK wr wb.heap.size H wb.heap.size n i us (rowsT n (mgnV vs) i k)) ∧ Hid (∀ o, i < o → us o = .slice none 0 0) ∧ Ext wb wr) (fun _ m _ => n - (intOf m).toNat)
      case atStart => exact ⟨0, us, Nat.zero_le _, rfl, hK, hU, hwr⟩
      case round =>
        clear hK hU hwr r0
        obtain ⟨m, us, hm, rfl, hK, hU, hwr⟩ := hrel
        have r0 := hwr.keep q0
        have r1 := hwr.keep q1
        by_cases hlt : m < n
        · have d0 := hK.out.mat.outer.cell i hit
          have hRr := hR0.ext hwr
          have hrl := rowL_len m (mgnV vs i)
          go_wp2
          refine wp_region_X (by kernel_rfl) (by kernel_rfl) ?_
          repeat' (refine wpX_stepQ (fun K hK => ?_)
                   go_simp
                   try (rw [if_neg (by intro h; simp [undef] at h)])
                   try split
                   all_goals
                     first
                     | (refine hK _ ?_
                        clear hK K)
                     | (apply Exists.intro
                        refine ⟨fun wq hwq => ?_, hK _ ?_⟩
                        · have hcq := hwq.cellS
                          go_simp
                          first
                          | exact ⟨Ext.refl _, rfl⟩
                          | exact ⟨Ext.refl _, margin_impl _ _ _ _ _ _ _ (hRr.ext (by repeat (first | exact Ext.refl _ | assumption | refine Ext.alloc ?_ _ | refine Ext.drew ?_ | refine Ext.trans ?_ (by assumption)))) HS.out⟩
                        clear hK K))
          refine wpX_stepS rfl (by kernel_rfl) (fun K hK wq hwq => ?_)
          go_simp
          refine ⟨(by repeat (first | exact Ext.refl _ | assumption | refine Ext.alloc ?_ _ | refine Ext.drew ?_ | refine Ext.trans ?_ (by assumption))), hK _ _ ?_⟩
          clear hK K
          refine wpX_stepC rfl (by kernel_rfl) (fun K hK' wa hwa => ?_)
          refine Eq.mpr (if_pos rfl) ?_
          have hKa := hK.out.ext (show Ext wr wa from (by repeat (first | exact Ext.refl _ | assumption | refine Ext.alloc ?_ _ | refine Ext.drew ?_ | refine Ext.trans ?_ (by assumption))))
          have hcur := hKa.cur
          rw [rowsT_at] at hcur
          refine oper_appB H wa rfl _ _ rfl _ (rowL m (mgnV vs i)) _ _ rfl hcur hKa.size rfl (hwa.keep (new0 wq _ _ _)) (by omega) ?_
          intro v' w3 hown3 hg3
          obtain ⟨av, nv, cv, rfl⟩ := hown3.form
          have hg0 : w3.heap[wb.heap.size]? = wa.heap[wb.heap.size]? := hg3.block _ hKa.mat.outer.lt (fun e => hKa.mat.far i hit e.symm)
          have z0 := (World.cell?_of_block (a := ⟨wb.heap.size, i, none⟩) hg0).trans (hKa.mat.outer.cell i hit)
          have z1 := (World.frozen?_of_block (a := ⟨wb.heap.size, i, none⟩) hg0).trans (hKa.mat.outer.fr i)
          have hE3 : Ext wb w3 := Ext.grown (show Ext wb wa from (by repeat (first | exact Ext.refl _ | assumption | refine Ext.alloc ?_ _ | refine Ext.drew ?_ | refine Ext.trans ?_ (by assumption)))) hg3 (ownsRow_block (hKa.mat.row i hit))
          clear hg0
          have HKA := hide hKa
          clear hKa
          refine hK' _ _ ?_
          clear hK' K
          repeat' (refine wpX_stepQ (fun K hK => ?_)
                   go_simp
                   try (rw [if_neg (by intro h; simp [undef] at h)])
                   try split
                   all_goals
                     first
                     | (refine hK _ ?_
                        clear hK K)
                     | (apply Exists.intro
                        refine ⟨fun wq hwq => ?_, hK _ ?_⟩
                        · have hcq := hwq.cellS
                          go_simp
                          first
                          | exact ⟨Ext.refl _, rfl⟩
                        clear hK K))
          refine wpX_stepL rfl (by kernel_rfl) (by kernel_rfl) (by kernel_rfl) (fun K hK wz hwz => ?_)
          have hcz := hwz.cellS
          have hfz := hwz.frozenS
          go_simp
          refine hK _ _ ?_
          clear hK K
          go_wp2
          have hN := HKA.out.app hit hown3 hg3 hwz
          have hrows : (fun o => if o = i then rowL m (mgnV vs i) ++ [mgnV vs i m] else rowsT n (mgnV vs) i m o) = rowsT n (mgnV vs) i (m + 1) := by
            funext o
            by_cases e : o = i
            · subst e; rw [if_pos rfl, rowsT_at, rowL_succ]
            · rw [if_neg e, rowsT_far n _ i m (m + 1) e]
          refine ⟨⟨m + 1, _, by omega, by go_num, by rw [← hrows]; exact hN, fun o ho => ?_, Ext.setCell (hE3.trans hwz) (Nat.le_refl _) _⟩, by simp [intOf]; omega⟩
          show (if o = i then _ else us o) = _
          rw [if_neg (by omega)]; exact hU.out o ho
        · have hmn : m = n := by omega
          go_wp2
          refine ⟨⟨i + 1, us, by omega, by go_num, ⟨?_, fun o ho => hU.out o (by omega)⟩, hwr⟩, by simp [intOf]; omega⟩
          rw [hmn] at hK
          exact hK.out.mat.congr (fun o _ => rowsT_done n _ i o)
    · have hin : i = n := by omega
      go_wp2
      go_ret
      refine ⟨_, rfl, ?_, hw.trans hwr⟩
      have h1 := (hMM.out.1.congr (rows' := fun o => rowL n (mgnV vs o)) (fun o ho => by rw [hin]; exact rowsT_all _ ho)).wr (Nat.le_refl n)
      have h2 := h1.base hw.size
      simpa [mgnO, h0, tabL] using h2

set_option maxRecDepth 100000 in
theorem len_le : ∀ (n : Nat) (r : List Int), r.Nodup → (∀ x ∈ r, 0 ≤ x ∧ x < (n : Int)) → r.length ≤ n
  | 0, r, _, h => by
    cases r with
    | nil => simp
    | cons x r => have := h x (by simp); omega
  | n + 1, r, hd, h => by
    have h1 := len_le n (r.erase (n : Int)) (hd.erase _) (fun x hx => by
      have h2 := h x (List.mem_of_mem_erase hx)
      have h3 : x ≠ (n : Int) := fun e => by subst e; exact hd.not_mem_erase hx
      omega)
    by_cases hm : (n : Int) ∈ r
    · rw [List.length_erase_of_mem hm] at h1; omega
    · rw [List.erase_of_not_mem hm] at h1; omega
set_option maxRecDepth 100000 in
theorem rk_all {n : Nat} {r : List Int} (h : rkOk n r = true) {a : Nat} (ha : a < n) : (a : Int) ∈ r := by
  by_cases hm : (a : Int) ∈ r
  · exact hm
  · have h1 := len_le n ((a : Int) :: r) (List.nodup_cons.2 ⟨hm, rk_nodup h⟩) (fun x hx => by
      rcases List.mem_cons.1 hx with rfl | hx
      · omega
      · have := rk_mem h hx; omega)
    have h2 := (rk_len h).1
    simp at h1; omega
set_option maxRecDepth 100000 in
theorem nodup_inj {r : List Int} (h : r.Nodup) {i j : Nat} {x : Int} (hi : r[i]? = some x) (hj : r[j]? = some x) : i = j := by
  obtain ⟨hil, hi⟩ := List.getElem?_eq_some_iff.1 hi
  obtain ⟨hjl, hj⟩ := List.getElem?_eq_some_iff.1 hj
  rcases Nat.lt_trichotomy i j with h1 | h1 | h1
  · exact absurd (hi.trans hj.symm) (List.pairwise_iff_getElem.1 h i j hil hjl h1)
  · exact h1
  · exact absurd (hj.trans hi.symm) (List.pairwise_iff_getElem.1 h j i hjl hil h1)
set_option maxRecDepth 100000 in
/-- Where a candidate stands in a valid ranking. -/
theorem place_at {n : Nat} {r : List Int} (h : rkOk n r = true) {a : Nat} (ha : a < n) : ∃ k : Nat, k < n ∧ placeI r a = k ∧ r[k]? = some (a : Int) ∧ ∀ j, r[j]? = some (a : Int) → j = k := by
  have hm := rk_all h ha
  have hl := (rk_len h).1
  unfold placeI findI
  cases hf : r.findIdx? (fun y => (a : Int) == y) with
  | none =>
    rw [List.findIdx?_eq_none_iff] at hf
    have := hf _ hm
    simp at this
  | some k =>
    rw [List.findIdx?_eq_some_iff_getElem] at hf
    obtain ⟨hk, h1, _⟩ := hf
    have h2 : r[k]? = some (a : Int) := by rw [List.getElem?_eq_getElem hk]; simp at h1; rw [← h1]
    exact ⟨k, by omega, rfl, h2, fun j hj => nodup_inj (rk_nodup h) hj h2⟩

set_option maxRecDepth 100000 in
theorem pref_self (r : List Int) (x : Int) : prefB r x x = false := by simp [prefB]
set_option maxRecDepth 100000 in
theorem pref_tot {n : Nat} {r : List Int} (h : rkOk n r = true) {x y : Nat} (hx : x < n) (hy : y < n) (hne : x ≠ y) : prefB r x y = !prefB r y x := by
  obtain ⟨p, _, h1, h2, _⟩ := place_at h hx
  obtain ⟨q, _, h3, h4, _⟩ := place_at h hy
  have hpq : p ≠ q := fun e => by subst e; rw [h2] at h4; injection h4 with h4; omega
  unfold prefB
  rw [h1, h3]
  by_cases h5 : p < q
  · have h6 : ¬ q < p := by omega
    simp [h5, h6]
  · have h6 : q < p := by omega
    simp [h5, h6]

def plcP (a k : Nat) (r : List Int) : Bool := r[k]? == some (a : Int)
def plcV (vs : List Vt) (a k : Nat) : Int := sumV (plcP a k) vs
def plcO (sz : Int) (vs : List Vt) : List (List Int) := if profOk sz vs then tabL sz.toNat (plcV vs) else []
set_option maxRecDepth 100000 in
theorem plcO_bd (sz : Int) (vs : List Vt) : (plcO sz vs).length ≤ 1000 ∧ ∀ x ∈ plcO sz vs, x.length ≤ 100 := by
  unfold plcO
  cases h0 : profOk sz vs
  · simp
  · obtain ⟨n, rfl, n1, n2⟩ := prof_nat h0
    simpa using tabL_bd n2

set_option maxRecDepth 100000 in
theorem OwnI.made (w : World) (n : Nat) (hn : n ≤ 2000000) : OwnI (w.alloc (.cells (madeCells #[.int .i64 0] n) 3)) w.heap.size (.slice (some ⟨w.heap.size, 0, none⟩) n n) (rowL n (fun _ => 0)) := by
  have h := World.ownsRow_lit (base := w.heap.size) (e := 3) (size := 1) w (madeCells #[.int .i64 0] n) n (Nat.le_refl _) (by unfold maxLen; omega) (by rw [size_madeCells]; omega)
  unfold OwnI
  have e : (rowL n (fun _ => 0)).map (Value.int .i64) = (madeCells #[Value.int .i64 0] n).toList := by
    have h0 := toList_madeCells_one (.int .i64 0) n
    have h1 : (madeCells #[Value.int .i64 0] n).toList = List.replicate n (.int .i64 0) := h0
    rw [h1]
    apply List.ext_getElem?
    intro j
    by_cases hj : j < n
    · simp [rowL, hj]
    · simp [rowL, hj]
  rw [rowL_len, e]
  exact h
set_option maxRecDepth 100000 in
theorem rowL_set {n : Nat} {f g : Nat → Int} {k : Nat} {y : Int} (hg : ∀ j, j < n → g j = if j = k then y else f j) : (rowL n f).set k y = rowL n g := by
  apply List.ext_getElem?
  intro j
  by_cases hj : j < n
  · by_cases e : k = j
    · subst e
      rw [List.getElem?_set_self (by rw [rowL_len]; exact hj), rowL_at hj, hg k hj, if_pos rfl]
    · rw [List.getElem?_set_ne e, rowL_at hj, rowL_at hj, hg j hj, if_neg (Ne.symm e)]
  · rw [List.getElem?_eq_none (by rw [List.length_set, rowL_len]; omega), List.getElem?_eq_none (by rw [rowL_len]; omega)]

def fullI (xs : List Int) : Int := findI (fun x => x == (xs.length : Int) - 1) xs

set_option maxRecDepth 100000 in
theorem allN_iff {n : Nat} {p : Nat → Bool} : allN n p = true ↔ ∀ j, j < n → p j = true := by
  unfold allN; rw [List.all_eq_true]
  exact ⟨fun h j hj => h j (List.mem_range.2 hj), fun h x hx => h x (List.mem_range.1 hx)⟩
set_option maxRecDepth 100000 in
theorem cntN_all {n : Nat} {p : Nat → Bool} : cntN n p = n ↔ allN n p = true := by
  rw [allN_iff]
  unfold cntN
  have h := List.countP_eq_length (p := p) (l := List.range n)
  rw [List.length_range] at h
  rw [h]
  exact ⟨fun h j hj => h j (List.mem_range.2 hj), fun h x hx => h x (List.mem_range.1 hx)⟩
set_option maxRecDepth 100000 in
theorem cntN_none {n : Nat} {p : Nat → Bool} : cntN n p = 0 ↔ allN n (fun j => !p j) = true := by
  rw [allN_iff]
  unfold cntN
  rw [List.countP_eq_zero]
  exact ⟨fun h j hj => by have := h j (List.mem_range.2 hj); simpa using this, fun h x hx => by have := h x (List.mem_range.1 hx); simpa using this⟩
set_option maxRecDepth 100000 in
theorem cntN_but (i : Nat) (q : Nat → Bool) (hi : q i = false) : ∀ k, cntN k (fun j => decide (i = j) || q j) = cntN k q + if i < k then 1 else 0
  | 0 => by simp [cntN]
  | k + 1 => by
    rw [cntN_succ, cntN_succ, cntN_but i q hi k]
    by_cases e : i = k
    · subst e
      simp [hi]
    · by_cases h : i < k
      · have h3 : i < k + 1 := by omega
        simp [e, h, h3]; omega
      · have h3 : ¬ i < k + 1 := by omega
        simp [e, h, h3]
set_option maxRecDepth 100000 in
theorem full_those {n i : Nat} {B : Nat → Nat → Bool} (hi : i < n) (h : B i i = false) : (cntN n (B i) = n - 1) ↔ thoseP n B i = true := by
  unfold thoseP
  rw [← cntN_all, cntN_but i (B i) h n, if_pos hi]
  omega
set_option maxRecDepth 100000 in
theorem upL_one {n i : Nat} {q : Nat → Bool} (hi : i < n) (h : q i = true) (hu : ∀ j, j < n → q j = true → j = i) : upL n q = [(i : Int)] := by
  have key : ∀ k, k ≤ n → upL k q = if i < k then [(i : Int)] else [] := by
    intro k
    induction k with
    | zero => intro _; simp [upL]
    | succ k ih =>
      intro hk
      rw [upL_succ, ih (by omega)]
      by_cases e : k = i
      · subst e; simp [h]
      · have hq : q k = false := by
          cases hq : q k
          · rfl
          · exact absurd (hu k (by omega) hq) e
        rw [hq]
        by_cases h2 : i < k
        · have h3 : i < k + 1 := by omega
          simp [h2, h3]
        · have h3 : ¬ i < k + 1 := by omega
          simp [h2, h3]
  rw [key n (Nat.le_refl _), if_pos hi]
set_option maxRecDepth 100000 in
theorem upL_none {n : Nat} {q : Nat → Bool} (h : ∀ j, j < n → q j = false) : upL n q = [] := by
  unfold upL
  rw [List.map_eq_nil_iff, List.filter_eq_nil_iff]
  intro x hx
  rw [h x (List.mem_range.1 hx)]; simp

set_option maxRecDepth 100000 in
theorem full_only {n : Nat} {B : Nat → Nat → Bool} (hn : 1 ≤ n) (ha : ∀ i j, B i j = true → B j i = false) :
    fullI (rowL n (fun i => (cntN n (B i) : Nat))) = onlyL (upL n (thoseP n B)) := by
  have hirr : ∀ i, B i i = false := fun i => by
    cases h : B i i
    · rfl
    · have := ha i i h
      rw [h] at this; cases this
  have hu : ∀ i j, i < n → j < n → thoseP n B i = true → thoseP n B j = true → j = i := fun i j hi hj h1 h2 => by
    by_cases e : j = i
    · exact e
    · have a1 := allN_iff.1 h1 j hj
      have a2 := allN_iff.1 h2 i hi
      simp only [Bool.or_eq_true, decide_eq_true_eq] at a1 a2
      rcases a1 with a1 | a1
      · exact a1.symm
      · rcases a2 with a2 | a2
        · exact a2
        · rw [ha i j a1] at a2; cases a2
  have hp : ∀ i, i < n → ((((cntN n (B i) : Nat) : Int) == ((n : Int) - 1)) = thoseP n B i) := fun i hi => by
    have h1 := full_those (B := B) hi (hirr i)
    cases h2 : thoseP n B i
    · have : ¬ cntN n (B i) = n - 1 := fun h => by rw [h1.1 h] at h2; cases h2
      simp; omega
    · have := h1.2 h2
      simp; omega
  unfold fullI
  rw [rowL_len]
  by_cases hex : ∃ i, i < n ∧ thoseP n B i = true
  · obtain ⟨i, hi, hq⟩ := hex
    rw [upL_one hi hq (fun j hj hj2 => hu i j hi hj hq hj2)]
    refine findI_some (rowL_at hi) ?_ (by rw [hp i hi]; exact hq)
    rw [List.all_eq_true]
    intro x hx
    obtain ⟨j, hj⟩ := List.getElem?_of_mem hx
    have hjl := lt_of_at hj
    rw [List.length_take] at hjl
    rw [List.getElem?_take_of_lt (by omega)] at hj
    obtain ⟨hjn, rfl⟩ := rowL_val hj
    rw [hp j hjn]
    cases h2 : thoseP n B j
    · rfl
    · have := hu i j hi hjn hq h2
      omega
  · have hno : ∀ j, j < n → thoseP n B j = false := fun j hj => by
      cases h : thoseP n B j
      · rfl
      · exact absurd ⟨j, hj, h⟩ hex
    rw [upL_none hno]
    refine findI_none ?_
    rw [List.all_eq_true]
    intro x hx
    obtain ⟨j, hj⟩ := List.getElem?_of_mem hx
    obtain ⟨hjn, rfl⟩ := rowL_val hj
    rw [hp j hjn, hno j hjn]; rfl

set_option maxRecDepth 100000 in
theorem bt_anti (vs : List Vt) (i j : Nat) (h : bt vs i j = true) : bt vs j i = false := by
  simp only [bt, beatsV, decide_eq_true_eq, decide_eq_false_iff_not] at *; omega

end Go.Proofs.Ytkbbcglghfddjaa
