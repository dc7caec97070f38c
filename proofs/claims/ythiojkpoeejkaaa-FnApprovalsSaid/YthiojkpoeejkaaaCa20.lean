/- slices' insertion sort with a function, over integers. slices' insertion sort with a function, over lists of integers. A whole list appended to an own list. A whole list appended to a list of the call's own, wherever it lies (also an empty one that lies nowhere). -/
import Derived.Test.YthiojkpoeejkaaaCa18
import Derived.Test.YthiojkpoeejkaaaCa19
import Derived.Test.YthiojkpoeejkaaaCa7
namespace Go.Proofs.Ythiojkpoeejkaaa
open Go.RowKit

/-- x at place j of S, and what follows. -/
def layL {α : Type} (S : List α) (x : α) (rest : List α) (j : Nat) : List α := S.take j ++ x :: (S.drop j ++ rest)
set_option maxRecDepth 100000 in
theorem layL_at {α : Type} {S rest : List α} {x : α} {j : Nat} (hj : j ≤ S.length) (o : Nat) : (layL S x rest j)[o]? = if o < j then S[o]? else if o = j then some x else (S ++ rest)[o - 1]? := by
  unfold layL
  by_cases h1 : o < j
  · rw [if_pos h1, List.getElem?_append_left (by rw [List.length_take]; omega), List.getElem?_take_of_lt h1]
  · rw [if_neg h1, List.getElem?_append_right (by rw [List.length_take]; omega), List.length_take, Nat.min_eq_left hj]
    by_cases h2 : o = j
    · subst h2; simp
    · rw [if_neg h2]
      obtain ⟨k, hk⟩ : ∃ k, o = j + (k + 1) := ⟨o - j - 1, by omega⟩
      subst hk
      rw [show j + (k + 1) - j = k + 1 by omega, List.getElem?_cons_succ, show j + (k + 1) - 1 = j + k by omega]
      by_cases h3 : j + k < S.length
      · rw [List.getElem?_append_left (by rw [List.length_drop]; omega), List.getElem?_append_left h3, List.getElem?_drop]
      · rw [List.getElem?_append_right (by rw [List.length_drop]; omega), List.getElem?_append_right (by omega), List.length_drop]
        congr 1; omega
set_option maxRecDepth 100000 in
theorem layL_len {α : Type} {S rest : List α} {x : α} {j : Nat} (hj : j ≤ S.length) : (layL S x rest j).length = S.length + 1 + rest.length := by
  unfold layL
  rw [List.length_append, List.length_take, List.length_cons, List.length_append, List.length_drop]; omega
set_option maxRecDepth 100000 in
theorem layL_end {α : Type} (S : List α) (x : α) (rest : List α) : layL S x rest S.length = S ++ x :: rest := by
  unfold layL; rw [List.take_length, List.drop_length]; rfl
/-- What stands in memory. -/
def memF {α : Type} (val : α → Value) (zs : List α) (o : Nat) : Value := ((zs[o]?).map val).getD undef
set_option maxRecDepth 100000 in
theorem memF_at {α : Type} {val : α → Value} {zs : List α} {o : Nat} {x : α} (h : zs[o]? = some x) : memF val zs o = val x := by simp [memF, h]

set_option maxRecDepth 100000 in
theorem lay_swap {α : Type} {val : α → Value} {S R : List α} {x y : α} {m : Nat} (hy : S[m]? = some y) (hm : m + 1 ≤ S.length) (o : Nat) :
    (if o = m then val x else if o = m + 1 then val y else memF val (layL S x R (m + 1)) o) = memF val (layL S x R m) o := by
  by_cases h1 : o = m
  · subst h1
    rw [if_pos rfl, memF_at (x := x) (by rw [layL_at (by omega), if_neg (by omega), if_pos rfl])]
  · rw [if_neg h1]
    by_cases h2 : o = m + 1
    · subst h2
      rw [if_pos rfl, memF_at (x := y)]
      rw [layL_at (by omega), if_neg (by omega), if_neg (by omega), show m + 1 - 1 = m by omega, List.getElem?_append_left (by omega)]
      exact hy
    · rw [if_neg h2]
      unfold memF
      rw [layL_at hm, layL_at (by omega)]
      by_cases h3 : o < m
      · rw [if_pos (by omega), if_pos h3]
      · rw [if_neg (by omega), if_neg h2, if_neg h3, if_neg h1]

set_option maxRecDepth 100000 in
theorem Low.set {H : Nat} (w : World) {p : Addr} (hp : H ≤ p.block) (v : Value) : Low H w (w.setCell p v) :=
  ⟨by simp [World.setCell], fun k hk _ => Below.heap_setCell w _ v k (by rintro rfl; omega)⟩

set_option maxRecDepth 100000 in
set_option maxHeartbeats 8000000 in
theorem ins_impl (K : Nat) (fst cap : Array Value) (key : Int → Int) (d : Int → Int → Int) (w : World) (g n c : Nat) (ys : List Int) (hn : ys.length = n) (hn2 : n ≤ 1000) (hB : BlkF w g n (memF (Value.int .i64) ys)) (hK : Enters Try.prog K)
    (hd : ∀ x y, d x y < 0 ↔ key y < key x)
    (hf : ∀ (x y : Int) (w' : World), x ∈ ys → y ∈ ys → Only g w w' → Calls Try.prog K (fst ++ (#[.int .i64 x, .int .i64 y] ++ cap)) w' fun e w'' => e = .returned (.int .i64 (d x y)) ∧ Ext w' w'') :
    Calls Try.prog 207 #[.slice (some ⟨g, 0, none⟩) n c, .int .i64 0, .int .i64 n, .func (.func K) fst cap] w fun e w' => e = .returned (.tuple #[]) ∧ BlkF w' g n (memF (Value.int .i64) (sortD key ys)) ∧ Only g w w' := by
  unfold Enters at hK
  have HF := hide hf
  have HD := hide hd
  have HN := hide hn
  clear hf hd hn
  go_enter Try.func207, Try.ntmps207
  go_wp2_with fail
  go_loopw [8, 9] (fun i _ wr => ∃ k : Nat, 1 ≤ k ∧ (k ≤ n ∨ k = 1) ∧ i = .int .i64 k ∧ BlkF wr g n (memF (Value.int .i64) (sortD key (ys.take k) ++ ys.drop k)) ∧ Only g w wr) (fun i _ _ => n - (intOf i).toNat)
  case atStart =>
    refine ⟨1, Nat.le_refl _, .inr rfl, rfl, ?_, Only.refl _ _⟩
    have : sortD key (ys.take 1) ++ ys.drop 1 = ys := by
      cases ys with
      | nil => rfl
      | cons y ys => simp [sortD, insD]
    rw [this]; exact hB
  case round =>
    clear hB
    obtain ⟨i, hi1, hi, rfl, hB, hw⟩ := hrel
    by_cases hit : i < n
    · obtain ⟨x, hx⟩ := at_of_lt (xs := ys) (k := i) (by have := HN.out; omega)
      have hxm := List.mem_of_getElem? hx
      obtain ⟨S, hS⟩ : ∃ S, S = sortD key (ys.take i) := ⟨_, rfl⟩
      obtain ⟨R, hR⟩ : ∃ R, R = ys.drop (i + 1) := ⟨_, rfl⟩
      have hSl : S.length = i := by rw [hS, sortD_len, List.length_take]; have := HN.out; omega
      have hRl : R.length = n - (i + 1) := by rw [hR, List.length_drop, HN.out]
      have hSm : ∀ y ∈ S, y ∈ ys := fun y hy => List.mem_of_mem_take (sortD_mem.1 (by rw [hS] at hy; exact hy))
      have hSd : DescK key S := by rw [hS]; exact sortD_desc _ _
      have h0 : sortD key (ys.take i) ++ ys.drop i = layL S x R i := by
        rw [← hSl, layL_end, hS, hR, sortD_len, List.length_take, Nat.min_eq_left (by have := HN.out; omega), List.drop_eq_getElem_cons (by have := HN.out; omega)]
        rw [List.getElem?_eq_getElem (by have := HN.out; omega)] at hx
        injection hx with hx
        rw [hx]
      have h1 : ∀ j, insD key S x = S.take j ++ x :: S.drop j → sortD key (ys.take (i + 1)) ++ ys.drop (i + 1) = layL S x R j := fun j hj => by
        rw [sortD_at hx, ← hS, hj, ← hR]; simp [layL]
      rw [h0] at hB
      have H1 := hide h1
      have HSL := hide hSl
      have HRL := hide hRl
      have HSM := hide hSm
      have HSD := hide hSd
      clear hx hS hR h0 h1 hSl hRl hSm hSd
      go_wp2_with fail
      obtain ⟨wo, hwo⟩ : ∃ wo : World, wo = wr := ⟨_, rfl⟩
      subst hwo
      go_loopw [9] (fun jj wr => ∃ j : Nat, j ≤ i ∧ jj = .int .i64 j ∧ BlkF wr g n (memF (Value.int .i64) (layL S x R j)) ∧ Hid (∀ y ∈ S.drop j, key y < key x) ∧ Only g w wr) (fun jj _ => (intOf jj).toNat)
      case atStart => exact ⟨i, Nat.le_refl _, rfl, hB, (fun y hy => by rw [List.drop_of_length_le (by rw [HSL.out]; exact Nat.le_refl _)] at hy; simp at hy), hw⟩
      case round =>
        clear hB hw
        obtain ⟨j, hj, rfl, hB, hlow, hw⟩ := hrel
        by_cases hj0 : j = 0
        · subst hj0
          have H2 := hide (H1.out 0 (insD_stop HSD.out (.inl rfl) hlow.out))
          go_wp2
          refine wp_region_X (by kernel_rfl) (by kernel_rfl) ?_
          repeat' (refine wpX_stepQ (fun K hK => ?_)
                   go_simp
                   try (rw [if_neg (by intro h; simp [undef] at h)])
                   try split
                   all_goals
                     first
                     | (refine hK _ ?_
                        clear hK K)
                     | (apply Exists.intro
                        refine ⟨fun wq hwq => ?_, hK _ ?_⟩
                        · have hcq := hwq.cellS
                          go_simp
                          first
                          | exact ⟨Ext.refl _, rfl⟩
                        clear hK K))
          refine wpX_nil (fun wz hwz => ?_)
          go_wp2
          exact ⟨⟨i + 1, by omega, by omega, by go_num, by rw [H2.out]; exact hB.ext hwz, hw.trans (Only.of_ext hwz)⟩, by simp [intOf]; omega⟩
        · obtain ⟨m, hm⟩ : ∃ m : Nat, j = m + 1 := ⟨j - 1, by omega⟩
          subst hm
          have hSn := HSL.out
          obtain ⟨y, hy⟩ := at_of_lt (xs := S) (k := m) (by omega)
          have hym := HSM.out y (List.mem_of_getElem? hy)
          have a1 : (layL S x R (m + 1))[m + 1]? = some x := by rw [layL_at (by omega), if_neg (by omega), if_pos rfl]
          have a2 : (layL S x R (m + 1))[m]? = some y := by rw [layL_at (by omega), if_pos (by omega)]; exact hy
          have d0 := hB.cell (m + 1) (by omega)
          have d1 := hB.cell m (by omega)
          rw [memF_at a1] at d0
          rw [memF_at a2] at d1
          have z0 := hB.fr (m + 1)
          have z1 := hB.fr m
          have HC : Hid (∀ w', Ext wr w' → Calls Try.prog K (fst ++ (#[.int .i64 x, .int .i64 y] ++ cap)) w' fun e w'' => e = .returned (.int .i64 (d x y)) ∧ Ext w' w'') := fun w' hw' => HF.out x y w' hxm hym (hw.trans (Only.of_ext hw'))
          have y1 : wrap64 ((m : Int) + 1 - 1) = m := by rw [IntWalk.wrap64_in _ (by omega)]; omega
          have y2 : IntKind.i64.wrap ((m : Int) + 1 - 1) = m := by rw [IntWalk.i64_left]; exact y1
          have y3 : wrap64 (m : Int) = m := IntWalk.wrap64_in _ (by omega)
          have y4 : IntKind.i64.wrap (m : Int) = m := IntWalk.i64_in _ (by omega)
          have i1 : (m : Int) + 1 < (n : Int) := by omega
          have i2 : (0 : Int) ≤ (m : Int) + 1 := by omega
          have i3 : ((m : Int) + 1).toNat = m + 1 := by omega
          have i4 : m < n := by omega
          have i5 : m + 1 < n := by omega
          have HB := hide hB
          have HY := hide hy
          have A1 := hide a1
          have A2 := hide a2
          clear hB a1 a2 hy hSn
          by_cases hlt : key y < key x
          · have t1 : d x y < 0 := (HD.out x y).2 hlt
            go_wp2
            refine wp_region_X (by kernel_rfl) (by kernel_rfl) ?_
            repeat' (refine wpX_stepQ (fun K hK => ?_)
                     go_simp
                     try (rw [if_neg (by intro h; simp [undef] at h)])
                     try split
                     all_goals
                       first
                       | (refine hK _ ?_
                          clear hK K)
                       | (apply Exists.intro
                          refine ⟨fun wq hwq => ?_, hK _ ?_⟩
                          · have hcq := hwq.cellS
                            go_simp
                            first
                            | exact ⟨Ext.refl _, rfl⟩
                            | exact ⟨Ext.refl _, HC.out _ (by repeat (first | exact Ext.refl _ | assumption | refine Ext.alloc ?_ _ | refine Ext.drew ?_ | refine Ext.trans ?_ (by assumption)))⟩
                          clear hK K))
            refine wpX_nil (fun wz hwz => ?_)
            go_wp2
            have hBz := HB.out.ext hwz
            have hOz : Only g w wz := hw.trans (Only.of_ext hwz)
            have b0 := hBz.cell (m + 1) i5
            have b1 := hBz.cell m i4
            have g0 := hBz.fr (m + 1)
            have g1 := hBz.fr m
            have HZ := hide hBz
            rw [memF_at (A1.out)] at b0
            rw [memF_at (A2.out)] at b1
            obtain ⟨wp, hwp⟩ : ∃ wp : World, wp = wz := ⟨_, rfl⟩
            subst hwp
            clear hwz d0 d1 z0 z1 HC HB hBz hw
            refine wp_region_L (H := g) (late := [4]) (by kernel_rfl) (by kernel_rfl) ?_
            repeat' (refine wpL_stepQ rfl (fun K hK => ?_)
                     go_simp
                     try (rw [if_neg (by intro h; simp [undef] at h)])
                     try split
                     all_goals
                       first
                       | (refine hK _ ?_
                          clear hK K)
                       | (apply Exists.intro
                          refine ⟨fun wq hwq => ?_, hK _ ?_⟩
                          · have hcq := hwq.cellS
                            go_simp
                            first
                            | exact ⟨Ext.refl _, rfl⟩
                          clear hK K))
            refine wpL_stepQL (.int .i64 (m : Int)) rfl (fun wq hwq => ?_) (fun K hK0 => ?_)
            · go_simp
              exact ⟨Ext.refl _, rfl⟩
            refine hK0 _ ?_
            clear hK0 K
            repeat' (refine wpL_stepQ rfl (fun K hK => ?_)
                     go_simp
                     try (rw [if_neg (by intro h; simp [undef] at h)])
                     try split
                     all_goals
                       first
                       | (refine hK _ ?_
                          clear hK K)
                       | (apply Exists.intro
                          refine ⟨fun wq hwq => ?_, hK _ ?_⟩
                          · have hcq := hwq.cellS
                            go_simp
                            first
                            | exact ⟨Ext.refl _, rfl⟩
                          clear hK K))
            refine wpL_stepC rfl (by kernel_rfl) (fun K hK' wa hwa => ?_)
            have hca := hwa.cellS
            have hfa := hwa.frozenS
            go_simp
            refine ⟨Low.set (H := g) _ (p := ⟨g, m + 1, none⟩) (Nat.le_refl g) _, hK' _ _ ?_⟩
            clear hK' K hca hfa
            have hB1 := (HZ.out.ext hwa).set (m + 1) i5 (.int .i64 y)
            have hO1 : Only g w (wa.setCell ⟨g, m + 1, none⟩ (.int .i64 y)) := (hOz.trans (Only.of_ext hwa)).setCell _ _
            generalize wa.setCell ⟨g, m + 1, none⟩ (.int .i64 y) = w5 at hB1 hO1 ⊢
            have b2 := hB1.cell m i4
            rw [if_neg (by omega), memF_at A2.out] at b2
            have g2 := hB1.fr m
            have HB1 := hide hB1
            clear hB1 HZ b0 b1 g0 g1 hOz
            repeat' (refine wpL_stepQ rfl (fun K hK => ?_)
                     go_simp
                     try (rw [if_neg (by intro h; simp [undef] at h)])
                     try split
                     all_goals
                       first
                       | (refine hK _ ?_
                          clear hK K)
                       | (apply Exists.intro
                          refine ⟨fun wq hwq => ?_, hK _ ?_⟩
                          · have hcq := hwq.cellS
                            go_simp
                            first
                            | exact ⟨Ext.refl _, rfl⟩
                          clear hK K))
            refine wpL_stepL rfl (by kernel_rfl) (by kernel_rfl) (by kernel_rfl) (fun K hK wz hwz => ?_)
            have hcz := hwz.cellS
            have hfz := hwz.frozenS
            go_simp
            refine hK _ _ ?_
            clear hK K
            go_wp2
            refine ⟨⟨m, by omega, by go_num, ((HB1.out.ext hwz).set m i4 (.int .i64 x)).congr (fun o _ => lay_swap (val := Value.int .i64) HY.out (by have := HSL.out; omega) o), fun z hz => ?_, (hO1.trans (Only.of_ext hwz)).setCell _ _⟩, by simp [intOf]⟩
            rw [List.drop_eq_getElem_cons (lt_of_at HY.out)] at hz
            rcases List.mem_cons.1 hz with hz | hz
            · have hy := HY.out
              rw [List.getElem?_eq_getElem (lt_of_at hy)] at hy
              injection hy with hy
              rw [hz, hy]; exact hlt
            · exact hlow.out z hz
          · have t1 : ¬ d x y < 0 := fun h => hlt ((HD.out x y).1 h)
            have H2 := hide (H1.out (m + 1) (insD_stop HSD.out (.inr ⟨y, HY.out, by omega⟩) hlow.out))
            go_wp2
            refine wp_region_X (by kernel_rfl) (by kernel_rfl) ?_
            repeat' (refine wpX_stepQ (fun K hK => ?_)
                     go_simp
                     try (rw [if_neg (by intro h; simp [undef] at h)])
                     try split
                     all_goals
                       first
                       | (refine hK _ ?_
                          clear hK K)
                       | (apply Exists.intro
                          refine ⟨fun wq hwq => ?_, hK _ ?_⟩
                          · have hcq := hwq.cellS
                            go_simp
                            first
                            | exact ⟨Ext.refl _, rfl⟩
                            | exact ⟨Ext.refl _, HC.out _ (by repeat (first | exact Ext.refl _ | assumption | refine Ext.alloc ?_ _ | refine Ext.drew ?_ | refine Ext.trans ?_ (by assumption)))⟩
                          clear hK K))
            refine wpX_nil (fun wz hwz => ?_)
            go_wp2
            exact ⟨⟨i + 1, by omega, by omega, by go_num, by rw [H2.out]; exact HB.out.ext hwz, hw.trans (Only.of_ext hwz)⟩, by simp [intOf]; omega⟩
    · have hin : i = n ∨ (i = 1 ∧ n = 0) := by omega
      go_wp2
      go_end0
      rw [List.take_of_length_le (by have := HN.out; omega), List.drop_of_length_le (by have := HN.out; omega), List.append_nil] at hB
      exact ⟨rfl, hB, hw⟩

/-- A list in memory: where it lies, and what it holds. -/
structure RowE where
  a : Option Addr
  n : Nat
  c : Nat
  xs : List Int
def rowV (e : RowE) : Value := .slice e.a e.n e.c

set_option maxRecDepth 100000 in
set_option maxHeartbeats 8000000 in
theorem insR_impl (K : Nat) (fst cap : Array Value) (key : RowE → Int) (d : RowE → RowE → Int) (w : World) (g n c : Nat) (ys : List RowE) (hn : ys.length = n) (hn2 : n ≤ 1000) (hB : BlkF w g n (memF rowV ys)) (hK : Enters Try.prog K)
    (hd : ∀ x y, d x y < 0 ↔ key y < key x)
    (hf : ∀ (x y : RowE) (w' : World), x ∈ ys → y ∈ ys → Only g w w' → Calls Try.prog K (fst ++ (#[.slice x.a x.n x.c, .slice y.a y.n y.c] ++ cap)) w' fun e w'' => e = .returned (.int .i64 (d x y)) ∧ Ext w' w'') :
    Calls Try.prog 213 #[.slice (some ⟨g, 0, none⟩) n c, .int .i64 0, .int .i64 n, .func (.func K) fst cap] w fun e w' => e = .returned (.tuple #[]) ∧ BlkF w' g n (memF rowV (sortD key ys)) ∧ Only g w w' := by
  unfold Enters at hK
  have HF := hide hf
  have HD := hide hd
  have HN := hide hn
  clear hf hd hn
  go_enter Try.func213, Try.ntmps213
  go_wp2_with fail
  go_loopw [8, 9] (fun i _ wr => ∃ k : Nat, 1 ≤ k ∧ (k ≤ n ∨ k = 1) ∧ i = .int .i64 k ∧ BlkF wr g n (memF rowV (sortD key (ys.take k) ++ ys.drop k)) ∧ Only g w wr) (fun i _ _ => n - (intOf i).toNat)
  case atStart =>
    refine ⟨1, Nat.le_refl _, .inr rfl, rfl, ?_, Only.refl _ _⟩
    have : sortD key (ys.take 1) ++ ys.drop 1 = ys := by
      cases ys with
      | nil => rfl
      | cons y ys => simp [sortD, insD]
    rw [this]; exact hB
  case round =>
    clear hB
    obtain ⟨i, hi1, hi, rfl, hB, hw⟩ := hrel
    by_cases hit : i < n
    · obtain ⟨x, hx⟩ := at_of_lt (xs := ys) (k := i) (by have := HN.out; omega)
      have hxm := List.mem_of_getElem? hx
      obtain ⟨S, hS⟩ : ∃ S, S = sortD key (ys.take i) := ⟨_, rfl⟩
      obtain ⟨R, hR⟩ : ∃ R, R = ys.drop (i + 1) := ⟨_, rfl⟩
      have hSl : S.length = i := by rw [hS, sortD_len, List.length_take]; have := HN.out; omega
      have hRl : R.length = n - (i + 1) := by rw [hR, List.length_drop, HN.out]
      have hSm : ∀ y ∈ S, y ∈ ys := fun y hy => List.mem_of_mem_take (sortD_mem.1 (by rw [hS] at hy; exact hy))
      have hSd : DescK key S := by rw [hS]; exact sortD_desc _ _
      have h0 : sortD key (ys.take i) ++ ys.drop i = layL S x R i := by
        rw [← hSl, layL_end, hS, hR, sortD_len, List.length_take, Nat.min_eq_left (by have := HN.out; omega), List.drop_eq_getElem_cons (by have := HN.out; omega)]
        rw [List.getElem?_eq_getElem (by have := HN.out; omega)] at hx
        injection hx with hx
        rw [hx]
      have h1 : ∀ j, insD key S x = S.take j ++ x :: S.drop j → sortD key (ys.take (i + 1)) ++ ys.drop (i + 1) = layL S x R j := fun j hj => by
        rw [sortD_at hx, ← hS, hj, ← hR]; simp [layL]
      rw [h0] at hB
      have H1 := hide h1
      have HSL := hide hSl
      have HRL := hide hRl
      have HSM := hide hSm
      have HSD := hide hSd
      clear hx hS hR h0 h1 hSl hRl hSm hSd
      go_wp2_with fail
      obtain ⟨wo, hwo⟩ : ∃ wo : World, wo = wr := ⟨_, rfl⟩
      subst hwo
      go_loopw [9] (fun jj wr => ∃ j : Nat, j ≤ i ∧ jj = .int .i64 j ∧ BlkF wr g n (memF rowV (layL S x R j)) ∧ Hid (∀ y ∈ S.drop j, key y < key x) ∧ Only g w wr) (fun jj _ => (intOf jj).toNat)
      case atStart => exact ⟨i, Nat.le_refl _, rfl, hB, (fun y hy => by rw [List.drop_of_length_le (by rw [HSL.out]; exact Nat.le_refl _)] at hy; simp at hy), hw⟩
      case round =>
        clear hB hw
        obtain ⟨j, hj, rfl, hB, hlow, hw⟩ := hrel
        by_cases hj0 : j = 0
        · subst hj0
          have H2 := hide (H1.out 0 (insD_stop HSD.out (.inl rfl) hlow.out))
          go_wp2
          refine wp_region_X (by kernel_rfl) (by kernel_rfl) ?_
          repeat' (refine wpX_stepQ (fun K hK => ?_)
                   go_simp
                   try (rw [if_neg (by intro h; simp [undef] at h)])
                   try split
                   all_goals
                     first
                     | (refine hK _ ?_
                        clear hK K)
                     | (apply Exists.intro
                        refine ⟨fun wq hwq => ?_, hK _ ?_⟩
                        · have hcq := hwq.cellS
                          go_simp
                          first
                          | exact ⟨Ext.refl _, rfl⟩
                        clear hK K))
          refine wpX_nil (fun wz hwz => ?_)
          go_wp2
          exact ⟨⟨i + 1, by omega, by omega, by go_num, by rw [H2.out]; exact hB.ext hwz, hw.trans (Only.of_ext hwz)⟩, by simp [intOf]; omega⟩
        · obtain ⟨m, hm⟩ : ∃ m : Nat, j = m + 1 := ⟨j - 1, by omega⟩
          subst hm
          have hSn := HSL.out
          obtain ⟨y, hy⟩ := at_of_lt (xs := S) (k := m) (by omega)
          have hym := HSM.out y (List.mem_of_getElem? hy)
          have a1 : (layL S x R (m + 1))[m + 1]? = some x := by rw [layL_at (by omega), if_neg (by omega), if_pos rfl]
          have a2 : (layL S x R (m + 1))[m]? = some y := by rw [layL_at (by omega), if_pos (by omega)]; exact hy
          have d0 := hB.cell (m + 1) (by omega)
          have d1 := hB.cell m (by omega)
          rw [memF_at a1, rowV] at d0
          rw [memF_at a2, rowV] at d1
          have z0 := hB.fr (m + 1)
          have z1 := hB.fr m
          have HC : Hid (∀ w', Ext wr w' → Calls Try.prog K (fst ++ (#[.slice x.a x.n x.c, .slice y.a y.n y.c] ++ cap)) w' fun e w'' => e = .returned (.int .i64 (d x y)) ∧ Ext w' w'') := fun w' hw' => HF.out x y w' hxm hym (hw.trans (Only.of_ext hw'))
          have y1 : wrap64 ((m : Int) + 1 - 1) = m := by rw [IntWalk.wrap64_in _ (by omega)]; omega
          have y2 : IntKind.i64.wrap ((m : Int) + 1 - 1) = m := by rw [IntWalk.i64_left]; exact y1
          have y3 : wrap64 (m : Int) = m := IntWalk.wrap64_in _ (by omega)
          have y4 : IntKind.i64.wrap (m : Int) = m := IntWalk.i64_in _ (by omega)
          have i1 : (m : Int) + 1 < (n : Int) := by omega
          have i2 : (0 : Int) ≤ (m : Int) + 1 := by omega
          have i3 : ((m : Int) + 1).toNat = m + 1 := by omega
          have i4 : m < n := by omega
          have i5 : m + 1 < n := by omega
          have HB := hide hB
          have HY := hide hy
          have A1 := hide a1
          have A2 := hide a2
          clear hB a1 a2 hy hSn
          by_cases hlt : key y < key x
          · have t1 : d x y < 0 := (HD.out x y).2 hlt
            go_wp2
            refine wp_region_X (by kernel_rfl) (by kernel_rfl) ?_
            repeat' (refine wpX_stepQ (fun K hK => ?_)
                     go_simp
                     try (rw [if_neg (by intro h; simp [undef] at h)])
                     try split
                     all_goals
                       first
                       | (refine hK _ ?_
                          clear hK K)
                       | (apply Exists.intro
                          refine ⟨fun wq hwq => ?_, hK _ ?_⟩
                          · have hcq := hwq.cellS
                            go_simp
                            first
                            | exact ⟨Ext.refl _, rfl⟩
                            | exact ⟨Ext.refl _, HC.out _ (by repeat (first | exact Ext.refl _ | assumption | refine Ext.alloc ?_ _ | refine Ext.drew ?_ | refine Ext.trans ?_ (by assumption)))⟩
                          clear hK K))
            refine wpX_nil (fun wz hwz => ?_)
            go_wp2
            have hBz := HB.out.ext hwz
            have hOz : Only g w wz := hw.trans (Only.of_ext hwz)
            have b0 := hBz.cell (m + 1) i5
            have b1 := hBz.cell m i4
            have g0 := hBz.fr (m + 1)
            have g1 := hBz.fr m
            have HZ := hide hBz
            rw [memF_at (A1.out), rowV] at b0
            rw [memF_at (A2.out), rowV] at b1
            obtain ⟨wp, hwp⟩ : ∃ wp : World, wp = wz := ⟨_, rfl⟩
            subst hwp
            clear hwz d0 d1 z0 z1 HC HB hBz hw
            refine wp_region_L (H := g) (late := [4]) (by kernel_rfl) (by kernel_rfl) ?_
            repeat' (refine wpL_stepQ rfl (fun K hK => ?_)
                     go_simp
                     try (rw [if_neg (by intro h; simp [undef] at h)])
                     try split
                     all_goals
                       first
                       | (refine hK _ ?_
                          clear hK K)
                       | (apply Exists.intro
                          refine ⟨fun wq hwq => ?_, hK _ ?_⟩
                          · have hcq := hwq.cellS
                            go_simp
                            first
                            | exact ⟨Ext.refl _, rfl⟩
                          clear hK K))
            refine wpL_stepQL (.int .i64 (m : Int)) rfl (fun wq hwq => ?_) (fun K hK0 => ?_)
            · go_simp
              exact ⟨Ext.refl _, rfl⟩
            refine hK0 _ ?_
            clear hK0 K
            repeat' (refine wpL_stepQ rfl (fun K hK => ?_)
                     go_simp
                     try (rw [if_neg (by intro h; simp [undef] at h)])
                     try split
                     all_goals
                       first
                       | (refine hK _ ?_
                          clear hK K)
                       | (apply Exists.intro
                          refine ⟨fun wq hwq => ?_, hK _ ?_⟩
                          · have hcq := hwq.cellS
                            go_simp
                            first
                            | exact ⟨Ext.refl _, rfl⟩
                          clear hK K))
            refine wpL_stepC rfl (by kernel_rfl) (fun K hK' wa hwa => ?_)
            have hca := hwa.cellS
            have hfa := hwa.frozenS
            go_simp
            refine ⟨Low.set (H := g) _ (p := ⟨g, m + 1, none⟩) (Nat.le_refl g) _, hK' _ _ ?_⟩
            clear hK' K hca hfa
            have hB1 := (HZ.out.ext hwa).set (m + 1) i5 (.slice y.a y.n y.c)
            have hO1 : Only g w (wa.setCell ⟨g, m + 1, none⟩ (.slice y.a y.n y.c)) := (hOz.trans (Only.of_ext hwa)).setCell _ _
            generalize wa.setCell ⟨g, m + 1, none⟩ (.slice y.a y.n y.c) = w5 at hB1 hO1 ⊢
            have b2 := hB1.cell m i4
            rw [if_neg (by omega), memF_at A2.out, rowV] at b2
            have g2 := hB1.fr m
            have HB1 := hide hB1
            clear hB1 HZ b0 b1 g0 g1 hOz
            repeat' (refine wpL_stepQ rfl (fun K hK => ?_)
                     go_simp
                     try (rw [if_neg (by intro h; simp [undef] at h)])
                     try split
                     all_goals
                       first
                       | (refine hK _ ?_
                          clear hK K)
                       | (apply Exists.intro
                          refine ⟨fun wq hwq => ?_, hK _ ?_⟩
                          · have hcq := hwq.cellS
                            go_simp
                            first
                            | exact ⟨Ext.refl _, rfl⟩
                          clear hK K))
            refine wpL_stepL rfl (by kernel_rfl) (by kernel_rfl) (by kernel_rfl) (fun K hK wz hwz => ?_)
            have hcz := hwz.cellS
            have hfz := hwz.frozenS
            go_simp
            refine hK _ _ ?_
            clear hK K
            go_wp2
            refine ⟨⟨m, by omega, by go_num, ((HB1.out.ext hwz).set m i4 (.slice x.a x.n x.c)).congr (fun o _ => lay_swap (val := rowV) HY.out (by have := HSL.out; omega) o), fun z hz => ?_, (hO1.trans (Only.of_ext hwz)).setCell _ _⟩, by simp [intOf]⟩
            rw [List.drop_eq_getElem_cons (lt_of_at HY.out)] at hz
            rcases List.mem_cons.1 hz with hz | hz
            · have hy := HY.out
              rw [List.getElem?_eq_getElem (lt_of_at hy)] at hy
              injection hy with hy
              rw [hz, hy]; exact hlt
            · exact hlow.out z hz
          · have t1 : ¬ d x y < 0 := fun h => hlt ((HD.out x y).1 h)
            have H2 := hide (H1.out (m + 1) (insD_stop HSD.out (.inr ⟨y, HY.out, by omega⟩) hlow.out))
            go_wp2
            refine wp_region_X (by kernel_rfl) (by kernel_rfl) ?_
            repeat' (refine wpX_stepQ (fun K hK => ?_)
                     go_simp
                     try (rw [if_neg (by intro h; simp [undef] at h)])
                     try split
                     all_goals
                       first
                       | (refine hK _ ?_
                          clear hK K)
                       | (apply Exists.intro
                          refine ⟨fun wq hwq => ?_, hK _ ?_⟩
                          · have hcq := hwq.cellS
                            go_simp
                            first
                            | exact ⟨Ext.refl _, rfl⟩
                            | exact ⟨Ext.refl _, HC.out _ (by repeat (first | exact Ext.refl _ | assumption | refine Ext.alloc ?_ _ | refine Ext.drew ?_ | refine Ext.trans ?_ (by assumption)))⟩
                          clear hK K))
            refine wpX_nil (fun wz hwz => ?_)
            go_wp2
            exact ⟨⟨i + 1, by omega, by omega, by go_num, by rw [H2.out]; exact HB.out.ext hwz, hw.trans (Only.of_ext hwz)⟩, by simp [intOf]; omega⟩
    · have hin : i = n ∨ (i = 1 ∧ n = 0) := by omega
      go_wp2
      go_end0
      rw [List.take_of_length_le (by have := HN.out; omega), List.drop_of_length_le (by have := HN.out; omega), List.append_nil] at hB
      exact ⟨rfl, hB, hw⟩

set_option maxRecDepth 100000 in
theorem wpList_appAll {ops : Array Oper} {rest : List Oper} {o : Oper} {a : Act} {Q : Exit → Act → World → Prop} (B : Nat) (w3 : World) (hgd : o.guard = none) (s x : Operand)
    (ho : o.op = .call { callee := .builtin .append, args := #[s, x], argTypes := #[29, 29] }) (v : Value) (xs ys : List Int) (hs : a.eval s = v) (hown : OwnI w3 B v xs) (hB : B ≤ w3.heap.size)
    (b off n c : Nat) (hn : n = ys.length) (hx : a.eval x = .slice (some ⟨b, off, none⟩) n c) (hR : RdI w3 (some ⟨b, off, none⟩) ys) (hlen : xs.length + ys.length ≤ 2000000)
    (h : ∀ v' w', OwnI w' B v' (xs ++ ys) → w3.grownBy w' v.ownBlock → wpList Try.prog ops Q rest (a.put o.dst v') w') : wpList Try.prog ops Q (o :: rest) a w3 := by
  obtain ⟨i0, hi, hz0, hz1, hz2⟩ := info_parts info_int
  subst hn
  obtain ⟨v', w', hr, h1, h2, _⟩ := run_append_own (P := Try.prog) w3 B 29 o.type 3 i0 (.int .i64 0) 1 8 Try.underlying29 hi hz0 hz1 hz2 rfl (by decide) v xs.length _ hown ⟨b, off, none⟩ ys.length c (ys.map (Value.int .i64)) (by simp)
    (fun j u hj => by
      rw [List.getElem?_map, Option.map_eq_some_iff] at hj
      obtain ⟨y, hy, rfl⟩ := hj
      obtain ⟨b', off', e, hc⟩ := hR.at_ hy
      injection e with e
      injection e with e1 e2
      subst e1 e2
      by_cases hj0 : j = 0
      · subst hj0
        simpa [Addr.add] using hc
      · simpa [Addr.add, hj0] using hc)
    (fun u hu => by
      obtain ⟨y, _, rfl⟩ := List.mem_map.1 hu
      rfl) (by unfold maxLen; omega) (by omega) hB
  refine wpList_plain hgd fun K hK => ?_
  unfold Oper.wp execOp
  simp only [ho, resolve, invoke, builtin, Sem.run_bind, Sem.run_pure, Result.andThen_ok, List.map_toArray, List.map_cons, List.map_nil, hs, hx, hr]
  refine hK _ _ (h v' w' ?_ h2)
  unfold OwnI
  rw [List.map_append, List.length_append]
  exact h1

set_option maxRecDepth 100000 in
theorem run_append_none {P : Program} (w : World) (base : Nat) (t ty e : TypeId) (i : TypeInfo) (size : Nat) (ht : P.underlying t = some (.slice e)) (hi : P.info? e = some i)
    (v : Value) (n : Nat) (xs : List Value) (hown : w.ownsRow base e size v n xs) (ax : Option Addr) (c : Nat) :
    (Builtin.append_ #[t, t] ty #[v, .slice ax 0 c]).run P w = .ok v w := by
  rcases hown.2 with ⟨rfl, rfl⟩ | ⟨g, cap, cur, rfl, _, _, hnc, _⟩ <;> cases ax
  · simp [Builtin.append_, run_underlying ht, sizeOf, typeInfo, hi, Builtin.lenOf, Builtin.firstCells]
  · simp [Builtin.append_, run_underlying ht, sizeOf, typeInfo, hi, Builtin.lenOf, Builtin.firstCells, loadCells, loadCellsFrom]
  · simp [Builtin.append_, run_underlying ht, sizeOf, typeInfo, hi, Builtin.lenOf, Builtin.firstCells, hnc, storeCells]
  · simp [Builtin.append_, run_underlying ht, sizeOf, typeInfo, hi, Builtin.lenOf, Builtin.firstCells, hnc, storeCells, loadCells, loadCellsFrom]

set_option maxRecDepth 100000 in
theorem run_append_any {P : Program} (w : World) (base : Nat) (t ty e : TypeId) (i : TypeInfo) (z : Value) (size bytes : Nat) (ht : P.underlying t = some (.slice e)) (hi : P.info? e = some i) (hz : i.zero = some z)
    (hsize : i.size = size) (hby : i.bytes = bytes) (hzs : z.cells.size = size) (hsz : 0 < size)
    (v : Value) (n : Nat) (xs : List Value) (hown : w.ownsRow base e size v n xs)
    (ax : Option Addr) (m c : Nat) (news : List Value) (hl : news.length = m * size) (hnews : news ≠ [] → ∃ a, ax = some a ∧ ∀ (j : Nat) u, news[j]? = some u → w.cell? (a.add j) = some u) (h1 : ∀ u ∈ news, u.oneCell' = true)
    (h63 : n + m ≤ maxLen) (hbytes : (n + m) * bytes ≤ 140737488355328) (hbase : base ≤ w.heap.size) :
    ∃ v' w', (Builtin.append_ #[t, t] ty #[v, .slice ax m c]).run P w = .ok v' w' ∧ w'.ownsRow base e size v' (n + m) (xs ++ news) ∧ w.grownBy w' v.ownBlock ∧ Fresh w v v' := by
  by_cases hm : m = 0
  · subst hm
    have hn : news = [] := List.length_eq_zero_iff.1 (by simpa using hl)
    subst hn
    refine ⟨v, w, run_append_none w base t ty e i size ht hi v n xs hown ax c, by simpa using hown, ⟨rfl, rfl, rfl, Nat.le_refl _, fun _ _ _ => rfl⟩, .inl rfl⟩
  · obtain ⟨a, rfl, hc⟩ := hnews (fun e => by
      rw [e] at hl
      have := Nat.mul_pos (Nat.pos_of_ne_zero hm) hsz
      simp only [List.length_nil] at hl; omega)
    exact run_append_fresh w base t ty e i z size bytes ht hi hz hsize hby hzs hsz v n xs hown a m c news hl hc h1 (by omega) h63 hbytes hbase

set_option maxRecDepth 100000 in
theorem wpList_appG {ops : Array Oper} {rest : List Oper} {o : Oper} {a : Act} {Q : Exit → Act → World → Prop} (B : Nat) (w3 : World) (hgd : o.guard = none) (s x : Operand)
    (ho : o.op = .call { callee := .builtin .append, args := #[s, x], argTypes := #[29, 29] }) (v : Value) (xs ys : List Int) (hs : a.eval s = v) (hown : OwnI w3 B v xs) (hB : B ≤ w3.heap.size)
    (ax : Option Addr) (n c : Nat) (hn : n = ys.length) (hx : a.eval x = .slice ax n c) (hR : RdI w3 ax ys) (hlen : xs.length + ys.length ≤ 2000000)
    (h : ∀ v' w', OwnI w' B v' (xs ++ ys) → w3.grownBy w' v.ownBlock → Fresh w3 v v' → wpList Try.prog ops Q rest (a.put o.dst v') w') : wpList Try.prog ops Q (o :: rest) a w3 := by
  obtain ⟨i0, hi, hz0, hz1, hz2⟩ := info_parts info_int
  subst hn
  obtain ⟨v', w', hr, h1, h2, h3⟩ := run_append_any (P := Try.prog) w3 B 29 o.type 3 i0 (.int .i64 0) 1 8 Try.underlying29 hi hz0 hz1 hz2 rfl (by decide) v xs.length _ hown ax ys.length c (ys.map (Value.int .i64)) (by simp)
    (fun hne => by
      obtain ⟨b, off, rfl, hc⟩ := hR (fun e => hne (by rw [e]; rfl))
      refine ⟨_, rfl, fun j u hj => ?_⟩
      rw [List.getElem?_map, Option.map_eq_some_iff] at hj
      obtain ⟨y, hy, rfl⟩ := hj
      have := hc j y hy
      by_cases hj0 : j = 0
      · subst hj0
        simpa [Addr.add] using this
      · simpa [Addr.add, hj0] using this)
    (fun u hu => by
      obtain ⟨y, _, rfl⟩ := List.mem_map.1 hu
      rfl) (by unfold maxLen; omega) (by omega) hB
  refine wpList_plain hgd fun K hK => ?_
  unfold Oper.wp execOp
  simp only [ho, resolve, invoke, builtin, Sem.run_bind, Sem.run_pure, Result.andThen_ok, List.map_toArray, List.map_cons, List.map_nil, hs, hx, hr]
  refine hK _ _ (h v' w' ?_ h2 h3)
  unfold OwnI
  rw [List.map_append, List.length_append]
  exact h1

set_option maxRecDepth 100000 in
theorem OwnI.rdI {w : World} {B : Nat} {a : Option Addr} {n c : Nat} {xs : List Int} (h : OwnI w B (.slice a n c) xs) : RdI w a xs := by
  obtain ⟨a', c', e, _, _, hR, _⟩ := h.val
  injection e with e1 e2 e3
  subst e1
  exact hR
set_option maxRecDepth 100000 in
/-- A part of a list that is read, from k on (the address stays where nothing is left behind it). -/
theorem RdI.drop {w : World} {b off n : Nat} {xs : List Int} (h : RdI w (some ⟨b, off, none⟩) xs) (k c : Nat) (hc : xs.length ≤ c) (hn : n = off + k) : RdI w (if c = k then some ⟨b, off, none⟩ else some ⟨b, n, none⟩) (xs.drop k) := fun hne => by
  have hk : k < xs.length := by
    rcases Nat.lt_or_ge k xs.length with h | h
    · exact h
    · exact absurd (List.drop_eq_nil_of_le h) hne
  obtain ⟨b', off', e, hc'⟩ := h (fun e => by rw [e] at hk; simp at hk)
  injection e with e
  injection e with e1 e2
  subst e1 e2
  rw [if_neg (by omega)]
  subst hn
  refine ⟨b, off + k, rfl, fun j x hx => ?_⟩
  rw [List.getElem?_drop] at hx
  rw [Nat.add_assoc]
  exact hc' (k + j) x hx
set_option maxRecDepth 100000 in
/-- A list of the call's own, cut short. -/
theorem OwnI.short {w : World} {B : Nat} {a : Option Addr} {n c : Nat} {xs : List Int} (h : OwnI w B (.slice a n c) xs) (k : Nat) (hk : k ≤ xs.length) : OwnI w B (.slice a k c) (xs.take k) := by
  obtain ⟨h1, h2⟩ := h
  have hl : (xs.take k).length = k := by rw [List.length_take]; omega
  refine ⟨by simp, ?_⟩
  rw [hl]
  rcases h2 with ⟨e, h0⟩ | ⟨g, cap, cur, e, hg, hh, hc, hm, hs, ht⟩
  · injection e with e1 e2 e3
    subst e1 e3
    have : k = 0 := by omega
    subst this
    exact .inl ⟨rfl, rfl⟩
  · injection e with e1 e2 e3
    subst e1 e3
    refine .inr ⟨g, c, cur, rfl, hg, hh, by omega, hm, hs, ?_⟩
    rw [Nat.mul_one] at ht ⊢
    rw [List.map_take, ← ht, List.take_take, Nat.min_eq_left hk]

end Go.Proofs.Ythiojkpoeejkaaa
