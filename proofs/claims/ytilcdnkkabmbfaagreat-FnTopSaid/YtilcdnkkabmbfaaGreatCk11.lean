/- slices' insertion sort with a function, over integers. slices' stable sort with a function, of a short list. The ranking by scores, of the program. The run-off of the two first candidates. Eliminations of the reference, and those of the three rules. Eliminations of the reference. The orders of elimination, on both sides. The orders of elimination of the three rules. -/
import Derived.Test.YtilcdnkkabmbfaaGreatCk6
import Derived.Test.YtilcdnkkabmbfaaGreatCk10
import Derived.Lib.BufferMore
import Derived.Test.YtilcdnkkabmbfaaGreatCk4
namespace Go.Proofs.YtilcdnkkabmbfaaGreat
open Go.RowKit

/-- x at place j of S, and what follows. -/
def layL {α : Type} (S : List α) (x : α) (rest : List α) (j : Nat) : List α := S.take j ++ x :: (S.drop j ++ rest)
set_option maxRecDepth 100000 in
theorem layL_at {α : Type} {S rest : List α} {x : α} {j : Nat} (hj : j ≤ S.length) (o : Nat) : (layL S x rest j)[o]? = if o < j then S[o]? else if o = j then some x else (S ++ rest)[o - 1]? := by
  unfold layL
  by_cases h1 : o < j
  · rw [if_pos h1, List.getElem?_append_left (by rw [List.length_take]; omega), List.getElem?_take_of_lt h1]
  · rw [if_neg h1, List.getElem?_append_right (by rw [List.length_take]; omega), List.length_take, Nat.min_eq_left hj]
    by_cases h2 : o = j
    · subst h2; simp
    · rw [if_neg h2]
      obtain ⟨k, hk⟩ : ∃ k, o = j + (k + 1) := ⟨o - j - 1, by omega⟩
      subst hk
      rw [show j + (k + 1) - j = k + 1 by omega, List.getElem?_cons_succ, show j + (k + 1) - 1 = j + k by omega]
      by_cases h3 : j + k < S.length
      · rw [List.getElem?_append_left (by rw [List.length_drop]; omega), List.getElem?_append_left h3, List.getElem?_drop]
      · rw [List.getElem?_append_right (by rw [List.length_drop]; omega), List.getElem?_append_right (by omega), List.length_drop]
        congr 1; omega
set_option maxRecDepth 100000 in
theorem layL_len {α : Type} {S rest : List α} {x : α} {j : Nat} (hj : j ≤ S.length) : (layL S x rest j).length = S.length + 1 + rest.length := by
  unfold layL
  rw [List.length_append, List.length_take, List.length_cons, List.length_append, List.length_drop]; omega
set_option maxRecDepth 100000 in
theorem layL_end {α : Type} (S : List α) (x : α) (rest : List α) : layL S x rest S.length = S ++ x :: rest := by
  unfold layL; rw [List.take_length, List.drop_length]; rfl
/-- What stands in memory. -/
def memF {α : Type} (val : α → Value) (zs : List α) (o : Nat) : Value := ((zs[o]?).map val).getD undef
set_option maxRecDepth 100000 in
theorem memF_at {α : Type} {val : α → Value} {zs : List α} {o : Nat} {x : α} (h : zs[o]? = some x) : memF val zs o = val x := by simp [memF, h]

set_option maxRecDepth 100000 in
theorem lay_swap {α : Type} {val : α → Value} {S R : List α} {x y : α} {m : Nat} (hy : S[m]? = some y) (hm : m + 1 ≤ S.length) (o : Nat) :
    (if o = m then val x else if o = m + 1 then val y else memF val (layL S x R (m + 1)) o) = memF val (layL S x R m) o := by
  by_cases h1 : o = m
  · subst h1
    rw [if_pos rfl, memF_at (x := x) (by rw [layL_at (by omega), if_neg (by omega), if_pos rfl])]
  · rw [if_neg h1]
    by_cases h2 : o = m + 1
    · subst h2
      rw [if_pos rfl, memF_at (x := y)]
      rw [layL_at (by omega), if_neg (by omega), if_neg (by omega), show m + 1 - 1 = m by omega, List.getElem?_append_left (by omega)]
      exact hy
    · rw [if_neg h2]
      unfold memF
      rw [layL_at hm, layL_at (by omega)]
      by_cases h3 : o < m
      · rw [if_pos (by omega), if_pos h3]
      · rw [if_neg (by omega), if_neg h2, if_neg h3, if_neg h1]

set_option maxRecDepth 100000 in
theorem Low.set {H : Nat} (w : World) {p : Addr} (hp : H ≤ p.block) (v : Value) : Low H w (w.setCell p v) :=
  ⟨by simp [World.setCell], fun k hk _ => Below.heap_setCell w _ v k (by rintro rfl; omega)⟩

set_option maxRecDepth 100000 in
set_option maxHeartbeats 8000000 in
theorem ins_impl (K : Nat) (fst cap : Array Value) (key : Int → Int) (d : Int → Int → Int) (w : World) (g n c : Nat) (ys : List Int) (hn : ys.length = n) (hn2 : n ≤ 1000) (hB : BlkF w g n (memF (Value.int .i64) ys)) (hK : Enters Tryz.prog K)
    (hd : ∀ x y, d x y < 0 ↔ key y < key x)
    (hf : ∀ (x y : Int) (w' : World), x ∈ ys → y ∈ ys → Only g w w' → Calls Tryz.prog K (fst ++ (#[.int .i64 x, .int .i64 y] ++ cap)) w' fun e w'' => e = .returned (.int .i64 (d x y)) ∧ Ext w' w'') :
    Calls Tryz.prog 190 #[.slice (some ⟨g, 0, none⟩) n c, .int .i64 0, .int .i64 n, .func (.func K) fst cap] w fun e w' => e = .returned (.tuple #[]) ∧ BlkF w' g n (memF (Value.int .i64) (sortD key ys)) ∧ Only g w w' := by
  unfold Enters at hK
  have HF := hide hf
  have HD := hide hd
  have HN := hide hn
  clear hf hd hn
  go_enter Tryz.func190, Tryz.ntmps190
  go_wp2_with fail
  go_loopw [8, 9] (fun i _ wr => ∃ k : Nat, 1 ≤ k ∧ (k ≤ n ∨ k = 1) ∧ i = .int .i64 k ∧ BlkF wr g n (memF (Value.int .i64) (sortD key (ys.take k) ++ ys.drop k)) ∧ Only g w wr) (fun i _ _ => n - (intOf i).toNat)
  case atStart =>
    refine ⟨1, Nat.le_refl _, .inr rfl, rfl, ?_, Only.refl _ _⟩
    have : sortD key (ys.take 1) ++ ys.drop 1 = ys := by
      cases ys with
      | nil => rfl
      | cons y ys => simp [sortD, insD]
    rw [this]; exact hB
  case round =>
    clear hB
    obtain ⟨i, hi1, hi, rfl, hB, hw⟩ := hrel
    by_cases hit : i < n
    · obtain ⟨x, hx⟩ := at_of_lt (xs := ys) (k := i) (by have := HN.out; omega)
      have hxm := List.mem_of_getElem? hx
      obtain ⟨S, hS⟩ : ∃ S, S = sortD key (ys.take i) := ⟨_, rfl⟩
      obtain ⟨R, hR⟩ : ∃ R, R = ys.drop (i + 1) := ⟨_, rfl⟩
      have hSl : S.length = i := by rw [hS, sortD_len, List.length_take]; have := HN.out; omega
      have hRl : R.length = n - (i + 1) := by rw [hR, List.length_drop, HN.out]
      have hSm : ∀ y ∈ S, y ∈ ys := fun y hy => List.mem_of_mem_take (sortD_mem.1 (by rw [hS] at hy; exact hy))
      have hSd : DescK key S := by rw [hS]; exact sortD_desc _ _
      have h0 : sortD key (ys.take i) ++ ys.drop i = layL S x R i := by
        rw [← hSl, layL_end, hS, hR, sortD_len, List.length_take, Nat.min_eq_left (by have := HN.out; omega), List.drop_eq_getElem_cons (by have := HN.out; omega)]
        rw [List.getElem?_eq_getElem (by have := HN.out; omega)] at hx
        injection hx with hx
        rw [hx]
      have h1 : ∀ j, insD key S x = S.take j ++ x :: S.drop j → sortD key (ys.take (i + 1)) ++ ys.drop (i + 1) = layL S x R j := fun j hj => by
        rw [sortD_at hx, ← hS, hj, ← hR]; simp [layL]
      rw [h0] at hB
      have H1 := hide h1
      have HSL := hide hSl
      have HRL := hide hRl
      have HSM := hide hSm
      have HSD := hide hSd
      clear hx hS hR h0 h1 hSl hRl hSm hSd
      go_wp2_with fail
      obtain ⟨wo, hwo⟩ : ∃ wo : World, wo = wr := ⟨_, rfl⟩
      subst hwo
      go_loopw [9] (fun jj wr => ∃ j : Nat, j ≤ i ∧ jj = .int .i64 j ∧ BlkF wr g n (memF (Value.int .i64) (layL S x R j)) ∧ Hid (∀ y ∈ S.drop j, key y < key x) ∧ Only g w wr) (fun jj _ => (intOf jj).toNat)
      case atStart => exact ⟨i, Nat.le_refl _, rfl, hB, (fun y hy => by rw [List.drop_of_length_le (by rw [HSL.out]; exact Nat.le_refl _)] at hy; simp at hy), hw⟩
      case round =>
        clear hB hw
        obtain ⟨j, hj, rfl, hB, hlow, hw⟩ := hrel
        by_cases hj0 : j = 0
        · subst hj0
          have H2 := hide (H1.out 0 (insD_stop HSD.out (.inl rfl) hlow.out))
          go_wp2
          refine wp_region_X (by kernel_rfl) (by kernel_rfl) ?_
          repeat' (refine wpX_stepQ (fun K hK => ?_)
                   go_simp
                   try (rw [if_neg (by intro h; simp [undef] at h)])
                   try split
                   all_goals
                     first
                     | (refine hK _ ?_
                        clear hK K)
                     | (apply Exists.intro
                        refine ⟨fun wq hwq => ?_, hK _ ?_⟩
                        · have hcq := hwq.cellS
                          go_simp
                          first
                          | exact ⟨Ext.refl _, rfl⟩
                        clear hK K))
          refine wpX_nil (fun wz hwz => ?_)
          go_wp2
          exact ⟨⟨i + 1, by omega, by omega, by go_num, by rw [H2.out]; exact hB.ext hwz, hw.trans (Only.of_ext hwz)⟩, by simp [intOf]; omega⟩
        · obtain ⟨m, hm⟩ : ∃ m : Nat, j = m + 1 := ⟨j - 1, by omega⟩
          subst hm
          have hSn := HSL.out
          obtain ⟨y, hy⟩ := at_of_lt (xs := S) (k := m) (by omega)
          have hym := HSM.out y (List.mem_of_getElem? hy)
          have a1 : (layL S x R (m + 1))[m + 1]? = some x := by rw [layL_at (by omega), if_neg (by omega), if_pos rfl]
          have a2 : (layL S x R (m + 1))[m]? = some y := by rw [layL_at (by omega), if_pos (by omega)]; exact hy
          have d0 := hB.cell (m + 1) (by omega)
          have d1 := hB.cell m (by omega)
          rw [memF_at a1] at d0
          rw [memF_at a2] at d1
          have z0 := hB.fr (m + 1)
          have z1 := hB.fr m
          have HC : Hid (∀ w', Ext wr w' → Calls Tryz.prog K (fst ++ (#[.int .i64 x, .int .i64 y] ++ cap)) w' fun e w'' => e = .returned (.int .i64 (d x y)) ∧ Ext w' w'') := fun w' hw' => HF.out x y w' hxm hym (hw.trans (Only.of_ext hw'))
          have y1 : wrap64 ((m : Int) + 1 - 1) = m := by rw [IntWalk.wrap64_in _ (by omega)]; omega
          have y2 : IntKind.i64.wrap ((m : Int) + 1 - 1) = m := by rw [IntWalk.i64_left]; exact y1
          have y3 : wrap64 (m : Int) = m := IntWalk.wrap64_in _ (by omega)
          have y4 : IntKind.i64.wrap (m : Int) = m := IntWalk.i64_in _ (by omega)
          have i1 : (m : Int) + 1 < (n : Int) := by omega
          have i2 : (0 : Int) ≤ (m : Int) + 1 := by omega
          have i3 : ((m : Int) + 1).toNat = m + 1 := by omega
          have i4 : m < n := by omega
          have i5 : m + 1 < n := by omega
          have HB := hide hB
          have HY := hide hy
          have A1 := hide a1
          have A2 := hide a2
          clear hB a1 a2 hy hSn
          by_cases hlt : key y < key x
          · have t1 : d x y < 0 := (HD.out x y).2 hlt
            go_wp2
            refine wp_region_X (by kernel_rfl) (by kernel_rfl) ?_
            repeat' (refine wpX_stepQ (fun K hK => ?_)
                     go_simp
                     try (rw [if_neg (by intro h; simp [undef] at h)])
                     try split
                     all_goals
                       first
                       | (refine hK _ ?_
                          clear hK K)
                       | (apply Exists.intro
                          refine ⟨fun wq hwq => ?_, hK _ ?_⟩
                          · have hcq := hwq.cellS
                            go_simp
                            first
                            | exact ⟨Ext.refl _, rfl⟩
                            | exact ⟨Ext.refl _, HC.out _ (by repeat (first | exact Ext.refl _ | assumption | refine Ext.alloc ?_ _ | refine Ext.drew ?_ | refine Ext.trans ?_ (by assumption)))⟩
                          clear hK K))
            refine wpX_nil (fun wz hwz => ?_)
            go_wp2
            have hBz := HB.out.ext hwz
            have hOz : Only g w wz := hw.trans (Only.of_ext hwz)
            have b0 := hBz.cell (m + 1) i5
            have b1 := hBz.cell m i4
            have g0 := hBz.fr (m + 1)
            have g1 := hBz.fr m
            have HZ := hide hBz
            rw [memF_at (A1.out)] at b0
            rw [memF_at (A2.out)] at b1
            obtain ⟨wp, hwp⟩ : ∃ wp : World, wp = wz := ⟨_, rfl⟩
            subst hwp
            clear hwz d0 d1 z0 z1 HC HB hBz hw
            refine wp_region_L (H := g) (late := [4]) (by kernel_rfl) (by kernel_rfl) ?_
            repeat' (refine wpL_stepQ rfl (fun K hK => ?_)
                     go_simp
                     try (rw [if_neg (by intro h; simp [undef] at h)])
                     try split
                     all_goals
                       first
                       | (refine hK _ ?_
                          clear hK K)
                       | (apply Exists.intro
                          refine ⟨fun wq hwq => ?_, hK _ ?_⟩
                          · have hcq := hwq.cellS
                            go_simp
                            first
                            | exact ⟨Ext.refl _, rfl⟩
                          clear hK K))
            refine wpL_stepQL (.int .i64 (m : Int)) rfl (fun wq hwq => ?_) (fun K hK0 => ?_)
            · go_simp
              exact ⟨Ext.refl _, rfl⟩
            refine hK0 _ ?_
            clear hK0 K
            repeat' (refine wpL_stepQ rfl (fun K hK => ?_)
                     go_simp
                     try (rw [if_neg (by intro h; simp [undef] at h)])
                     try split
                     all_goals
                       first
                       | (refine hK _ ?_
                          clear hK K)
                       | (apply Exists.intro
                          refine ⟨fun wq hwq => ?_, hK _ ?_⟩
                          · have hcq := hwq.cellS
                            go_simp
                            first
                            | exact ⟨Ext.refl _, rfl⟩
                          clear hK K))
            refine wpL_stepC rfl (by kernel_rfl) (fun K hK' wa hwa => ?_)
            have hca := hwa.cellS
            have hfa := hwa.frozenS
            go_simp
            refine ⟨Low.set (H := g) _ (p := ⟨g, m + 1, none⟩) (Nat.le_refl g) _, hK' _ _ ?_⟩
            clear hK' K hca hfa
            have hB1 := (HZ.out.ext hwa).set (m + 1) i5 (.int .i64 y)
            have hO1 : Only g w (wa.setCell ⟨g, m + 1, none⟩ (.int .i64 y)) := (hOz.trans (Only.of_ext hwa)).setCell _ _
            generalize wa.setCell ⟨g, m + 1, none⟩ (.int .i64 y) = w5 at hB1 hO1 ⊢
            have b2 := hB1.cell m i4
            rw [if_neg (by omega), memF_at A2.out] at b2
            have g2 := hB1.fr m
            have HB1 := hide hB1
            clear hB1 HZ b0 b1 g0 g1 hOz
            repeat' (refine wpL_stepQ rfl (fun K hK => ?_)
                     go_simp
                     try (rw [if_neg (by intro h; simp [undef] at h)])
                     try split
                     all_goals
                       first
                       | (refine hK _ ?_
                          clear hK K)
                       | (apply Exists.intro
                          refine ⟨fun wq hwq => ?_, hK _ ?_⟩
                          · have hcq := hwq.cellS
                            go_simp
                            first
                            | exact ⟨Ext.refl _, rfl⟩
                          clear hK K))
            refine wpL_stepL rfl (by kernel_rfl) (by kernel_rfl) (by kernel_rfl) (fun K hK wz hwz => ?_)
            have hcz := hwz.cellS
            have hfz := hwz.frozenS
            go_simp
            refine hK _ _ ?_
            clear hK K
            go_wp2
            refine ⟨⟨m, by omega, by go_num, ((HB1.out.ext hwz).set m i4 (.int .i64 x)).congr (fun o _ => lay_swap (val := Value.int .i64) HY.out (by have := HSL.out; omega) o), fun z hz => ?_, (hO1.trans (Only.of_ext hwz)).setCell _ _⟩, by simp [intOf]⟩
            rw [List.drop_eq_getElem_cons (lt_of_at HY.out)] at hz
            rcases List.mem_cons.1 hz with hz | hz
            · have hy := HY.out
              rw [List.getElem?_eq_getElem (lt_of_at hy)] at hy
              injection hy with hy
              rw [hz, hy]; exact hlt
            · exact hlow.out z hz
          · have t1 : ¬ d x y < 0 := fun h => hlt ((HD.out x y).1 h)
            have H2 := hide (H1.out (m + 1) (insD_stop HSD.out (.inr ⟨y, HY.out, by omega⟩) hlow.out))
            go_wp2
            refine wp_region_X (by kernel_rfl) (by kernel_rfl) ?_
            repeat' (refine wpX_stepQ (fun K hK => ?_)
                     go_simp
                     try (rw [if_neg (by intro h; simp [undef] at h)])
                     try split
                     all_goals
                       first
                       | (refine hK _ ?_
                          clear hK K)
                       | (apply Exists.intro
                          refine ⟨fun wq hwq => ?_, hK _ ?_⟩
                          · have hcq := hwq.cellS
                            go_simp
                            first
                            | exact ⟨Ext.refl _, rfl⟩
                            | exact ⟨Ext.refl _, HC.out _ (by repeat (first | exact Ext.refl _ | assumption | refine Ext.alloc ?_ _ | refine Ext.drew ?_ | refine Ext.trans ?_ (by assumption)))⟩
                          clear hK K))
            refine wpX_nil (fun wz hwz => ?_)
            go_wp2
            exact ⟨⟨i + 1, by omega, by omega, by go_num, by rw [H2.out]; exact HB.out.ext hwz, hw.trans (Only.of_ext hwz)⟩, by simp [intOf]; omega⟩
    · have hin : i = n ∨ (i = 1 ∧ n = 0) := by omega
      go_wp2
      go_end0
      rw [List.take_of_length_le (by have := HN.out; omega), List.drop_of_length_le (by have := HN.out; omega), List.append_nil] at hB
      exact ⟨rfl, hB, hw⟩

set_option maxRecDepth 100000 in
set_option maxHeartbeats 4000000 in
theorem stab_impl (K : Nat) (fst cap : Array Value) (key : Int → Int) (d : Int → Int → Int) (w : World) (g n c : Nat) (ys : List Int) (hn : ys.length = n) (hn2 : n ≤ 19) (hB : BlkF w g n (memF (Value.int .i64) ys)) (hK : Enters Tryz.prog K)
    (hd : ∀ x y, d x y < 0 ↔ key y < key x)
    (hf : ∀ (x y : Int) (w' : World), x ∈ ys → y ∈ ys → Only g w w' → Calls Tryz.prog K (fst ++ (#[.int .i64 x, .int .i64 y] ++ cap)) w' fun e w'' => e = .returned (.int .i64 (d x y)) ∧ Ext w' w'') :
    Calls Tryz.prog 143 #[.slice (some ⟨g, 0, none⟩) n c, .func (.func K) fst cap] w fun e w' => e = .returned (.tuple #[]) ∧ BlkF w' g n (memF (Value.int .i64) (sortD key ys)) ∧ Only g w w' := by
  have HI := hide (ins_impl K fst cap key d w g n c ys hn (by omega) hB hK hd hf)
  have i1 : ¬ (20 : Int) ≤ (n : Int) := by omega
  have i2 : ¬ (20 : Int) < (n : Int) := by omega
  clear hd hf hB hn
  have HS : Hid (Calls Tryz.prog 169 #[.slice (some ⟨g, 0, none⟩) n c, .int .i64 n, .func (.func K) fst cap] w fun e w' => e = .returned (.tuple #[]) ∧ BlkF w' g n (memF (Value.int .i64) (sortD key ys)) ∧ Only g w w') := by
    go_enter Tryz.func169, Tryz.ntmps169
    go_wp2_with fail
    go_loopw [7, 8] (fun a b wr => a = .int .i64 0 ∧ b = .int .i64 20 ∧ wr = w) (fun _ _ _ => 0)
    case atStart => exact ⟨rfl, rfl, rfl⟩
    case round =>
      obtain ⟨rfl, rfl, rfl⟩ := hrel
      go_wp2_with fail
      refine HI.out.mono ?_
      rintro e w1 ⟨rfl, hB1, hO1⟩
      obtain ⟨wb, hwb⟩ : ∃ wb : World, wb = wr := ⟨_, rfl⟩
      subst hwb
      go_wp2_with fail
      go_loopw [6, 7, 8, 9] (fun s _ _ _ wq => s = .int .i64 20 ∧ wq = w1) (fun _ _ _ _ _ => 0)
      case atStart => exact ⟨rfl, rfl⟩
      case round =>
        obtain ⟨rfl, rfl⟩ := hrel
        go_wp2
        go_end0
        exact ⟨rfl, hB1, hO1⟩
  go_enter Tryz.func143, Tryz.ntmps143
  go_wp2_with fail
  refine HS.out.mono ?_
  rintro e w1 ⟨rfl, hB1, hO1⟩
  go_wp2
  go_end0
  exact ⟨rfl, hB1, hO1⟩

set_option maxRecDepth 100000 in
set_option maxHeartbeats 1000000 in
theorem srkOne (w : World) (gs n : Nat) (av : Option Addr) (cv : Nat) (sc : Nat → Int) (i j : Nat) (hg : w.cell? ⟨gs, 0, none⟩ = some (.slice av n cv)) (hR : RdI w av (rowL n sc)) (hi : i < n) (hj : j < n)
    (h1 : -10000000 ≤ sc i ∧ sc i ≤ 10000000) (h2 : -10000000 ≤ sc j ∧ sc j ≤ 10000000) :
    Calls Tryz.prog 144 (#[] ++ (#[.int .i64 (i : Int), .int .i64 (j : Int)] ++ #[.pointer (some ⟨gs, 0, none⟩)])) w fun e w' => e = .returned (.int .i64 (sc j - sc i)) ∧ Ext w w' := by
  obtain ⟨b, off, rfl, c0⟩ := hR.at_ (rowL_at (f := sc) hi)
  obtain ⟨b2, off2, hb, c1⟩ := hR.at_ (rowL_at (f := sc) hj)
  injection hb with hb
  injection hb with hb hb2
  subst hb
  subst hb2
  have y1 : wrap64 (sc j - sc i) = sc j - sc i := IntWalk.wrap64_in _ (by omega)
  have y2 : IntKind.i64.wrap (sc j - sc i) = sc j - sc i := IntWalk.i64_in _ (by omega)
  show Calls Tryz.prog 144 #[.int .i64 (i : Int), .int .i64 (j : Int), .pointer (some ⟨gs, 0, none⟩)] w _
  go_enter Tryz.func144, Tryz.ntmps144
  go_wp2
  refine wp_region_X (by kernel_rfl) (by kernel_rfl) ?_
  repeat' (refine wpX_stepQ (fun K hK => ?_)
           go_simp
           try (rw [if_neg (by intro h; simp [undef] at h)])
           try split
           all_goals
             first
             | (refine hK _ ?_
                clear hK K)
             | (apply Exists.intro
                refine ⟨fun wq hwq => ?_, hK _ ?_⟩
                · have hcq := hwq.cellS
                  go_simp
                  first
                  | exact ⟨Ext.refl _, rfl⟩
                clear hK K))
  refine wpX_nil (fun wz hwz => ?_)
  go_wp2
  go_ret
  exact ⟨rfl, hwz⟩

set_option maxRecDepth 100000 in
set_option maxHeartbeats 4000000 in
theorem srk_impl (w : World) (sz : Int) (a aw : Option Addr) (c cw : Nat) (vs : List Vt) (f : Nat → Int) (n : Nat) (hz : sz = n) (hR : RdV w a vs) (hW : RdI w aw (rowL n f)) (hf : GoodW f) (h0 : profOk sz vs = true) :
    Calls Tryz.prog 92 #[.agg #[.int .i64 sz, .slice a vs.length c], .slice aw n cw] w fun e w' => ∃ v, e = .returned v ∧ WrI w' w.heap.size v (srk (scoV f vs) n) ∧ Ext w w' := by
  subst hz
  obtain ⟨m, hm, n1, n2⟩ := prof_nat h0
  have hnm : n = m := by omega
  rw [← hnm] at n1 n2
  clear hm hnm m
  have HF := hide hf
  have hbd : ∀ j, -10000000 ≤ scoV f vs j ∧ scoV f vs j ≤ 10000000 := fun j => by
    have hS := prof_small h0
    have h := scoV_bd hS hf j vs.length (Nat.le_refl _)
    rw [List.take_length] at h
    have := hS.1
    omega
  have HBD := hide hbd
  clear hf hbd
  have q0 := new0 w (.int .i64 n) [.slice a vs.length c] 29
  have q1 := new1 w (.int .i64 n) (.slice a vs.length c) [] 29
  have hnil : ∀ (W : World) (a : Addr) (n c : Nat), (binOp .eql 36 (.slice (some a) n c) (.slice none 0 0)).run Tryz.prog W = .ok (.bool false) W := fun W a n c => Lib.run_eql_slice_some_nil W a n c Tryz.underlying36
  go_enter Tryz.func92, Tryz.ntmps92
  go_wp2_with fail
  refine (sco_impl _ _ a aw c cw vs f n rfl (hR.ext (by repeat (first | exact Ext.refl _ | assumption | refine Ext.alloc ?_ _ | refine Ext.drew ?_ | refine Ext.trans ?_ (by assumption)))) (hW.ext (by repeat (first | exact Ext.refl _ | assumption | refine Ext.alloc ?_ _ | refine Ext.drew ?_ | refine Ext.trans ?_ (by assumption)))) HF.out h0).mono ?_
  rintro e w1 ⟨v, rfl, hv, hw1⟩
  have q0 := hw1.keep q0
  have q1 := hw1.keep q1
  obtain ⟨av, cv, rfl, hcv, hRs, hju⟩ := hv.fr
  clear hju
  rw [rowL_len] at hcv hv ⊢
  obtain ⟨b0, off0, rfl, hc0⟩ := hRs.at_ (rowL_at (f := scoV f vs) (show 0 < n by omega))
  have hE1 : Ext w w1 := (Ext.new _ _).trans hw1
  have r0 := new0 w1 (.slice (some ⟨b0, off0, none⟩) n cv) [] 36
  have hE2 := Ext.new w1 (.cells #[.slice (some ⟨b0, off0, none⟩) n cv] 36)
  have q0 := hE2.keep q0
  have q1 := hE2.keep q1
  go_wp2_with fail
  refine (indices_impl _ n n2).mono ?_
  rintro e w2 ⟨rfl, hB, hw2⟩
  have hE3 : Ext w w2 := hE1.trans (hE2.trans hw2)
  have r0 := hw2.keep r0
  have hRs2 := (hRs.ext hE2).ext hw2
  have hG : (w1.alloc (.cells #[.slice (some ⟨b0, off0, none⟩) n cv] 36)).heap.size = w1.heap.size + 1 := by simp
  have hws := hE1.size
  have hb0 : b0 < w1.heap.size := World.block_lt_of_cell? w1 _ hc0
  rw [hG] at hB
  clear hG hE2 hw2 hRs hv q0 q1 hc0
  have hBm : BlkF w2 (w1.heap.size + 1) n (memF (Value.int .i64) (iotaL n)) := hB.congr (fun o ho => (memF_at (val := Value.int .i64) (rowL_at (f := fun j => (j : Int)) ho)).symm)
  have hl : (iotaL n).length = n := rowL_len _ _
  have HS := hide (stab_impl 144 #[] #[.pointer (some ⟨w1.heap.size, 0, none⟩)] (keyS (scoV f vs)) (fun x y => scoV f vs y.toNat - scoV f vs x.toNat) w2 (w1.heap.size + 1) n n (iotaL n) hl (by omega) hBm Tryz.call144
    (fun x y => by unfold keyS; omega)
    (fun x y w' hx hy hO => by
      obtain ⟨i, hi⟩ := List.mem_iff_getElem?.1 hx
      obtain ⟨hi1, rfl⟩ := rowL_val hi
      obtain ⟨j, hj⟩ := List.mem_iff_getElem?.1 hy
      obtain ⟨hj1, rfl⟩ := rowL_val hj
      simp only [Int.toNat_natCast]
      exact srkOne w' w1.heap.size n (some ⟨b0, off0, none⟩) cv (scoV f vs) i j (hO.keep (by show w1.heap.size ≠ w1.heap.size + 1; omega) r0) (hO.rdI hRs2 (fun b off h => by injection h with h; injection h with h; omega)) hi1 hj1 (HBD.out i) (HBD.out j)))
  clear hB hBm r0 hRs2 hnil
  go_wp2_with fail
  refine HS.out.mono ?_
  rintro e w3 ⟨rfl, hB3, hO3⟩
  go_wp2
  go_ret
  refine ⟨_, rfl, hB3.wrI (by rw [srk_len]) (fun j x hx => memF_at hx) (by omega) (Nat.le_refl _), Only.ext hE3 hO3 (by omega)⟩

/-- Of the two first of the ranking the one that beats the other one, else the lesser. -/
def runV (n : Nat) (vs : List Vt) : Int :=
  if n = 1 then 0 else
  if beatsV vs (max ((srk (scoV pluW vs) n).getD 0 0) ((srk (scoV pluW vs) n).getD 1 0)) (min ((srk (scoV pluW vs) n).getD 0 0) ((srk (scoV pluW vs) n).getD 1 0)) then max ((srk (scoV pluW vs) n).getD 0 0) ((srk (scoV pluW vs) n).getD 1 0)
  else min ((srk (scoV pluW vs) n).getD 0 0) ((srk (scoV pluW vs) n).getD 1 0)
def runO (sz : Int) (vs : List Vt) : Int := if profOk sz vs then runV sz.toNat vs else -1
set_option maxRecDepth 100000 in
theorem run_one {n : Nat} {vs : List Vt} (h0 : profOk n vs = true) (hn : n = 1) : runO n vs = 0 := by simp only [runO, h0, if_true, runV, Int.toNat_natCast, if_pos hn]
set_option maxRecDepth 100000 in
theorem srk_nodup (sc : Nat → Int) (n : Nat) : (srk sc n).Nodup := by
  unfold srk
  rw [(sortD_perm (keyS sc) (iotaL n)).nodup_iff, iotaL_up]
  exact upL_nodup _ _
set_option maxRecDepth 100000 in
theorem run_two {n : Nat} {vs : List Vt} {x y : Int} (h0 : profOk n vs = true) (hn : n ≠ 1) (hx : (srk (scoV pluW vs) n)[0]? = some x) (hy : (srk (scoV pluW vs) n)[1]? = some y) :
    runO n vs = if beatsV vs (max x y) (min x y) then max x y else min x y := by
  have e1 : (srk (scoV pluW vs) n).getD 0 0 = x := by simp [List.getD, hx]
  have e2 : (srk (scoV pluW vs) n).getD 1 0 = y := by simp [List.getD, hy]
  simp only [runO, h0, if_true, runV, Int.toNat_natCast, if_neg hn, e1, e2]

set_option maxRecDepth 100000 in
set_option maxHeartbeats 4000000 in
theorem run_impl (w : World) (sz : Int) (a : Option Addr) (c : Nat) (vs : List Vt) (hR : RdV w a vs) :
    Calls Tryz.prog 44 #[.agg #[.int .i64 sz, .slice a vs.length c]] w fun e w' => e = .returned (.int .i64 (runO sz vs)) ∧ Ext w w' := by
  have q0 := new0 w (.int .i64 sz) [.slice a vs.length c] 29
  have q1 := new1 w (.int .i64 sz) (.slice a vs.length c) [] 29
  cases h0 : profOk sz vs
  · go_enter Tryz.func44, Tryz.ntmps44
    go_wp2_with (go_at_call 36; refine (prof_impl _ _ _ _ _ (hR.ext (by repeat (first | exact Ext.refl _ | assumption | refine Ext.alloc ?_ _ | refine Ext.drew ?_ | refine Ext.trans ?_ (by assumption))))).mono ?_; rintro e w1 ⟨rfl, hw1⟩; have q0 := Ext.keep (w' := w1) (by repeat (first | exact Ext.refl _ | assumption | refine Ext.alloc ?_ _ | refine Ext.drew ?_ | refine Ext.trans ?_ (by assumption))) q0; have q1 := Ext.keep (w' := w1) (by repeat (first | exact Ext.refl _ | assumption | refine Ext.alloc ?_ _ | refine Ext.drew ?_ | refine Ext.trans ?_ (by assumption))) q1)
    go_ret
    exact ⟨ret_int (by simp [runO, h0]), (by repeat (first | exact Ext.refl _ | assumption | refine Ext.alloc ?_ _ | refine Ext.drew ?_ | refine Ext.trans ?_ (by assumption)))⟩
  obtain ⟨n, rfl, n1, n2⟩ := prof_nat h0
  have HS := hide (prof_small h0)
  by_cases hn : n = 1
  · have hn1 : ((n : Int) == 1) = true := by rw [beq_iff_eq]; omega
    have HN := hide hn
    clear hn
    go_enter Tryz.func44, Tryz.ntmps44
    go_wp2_with (go_at_call 36; refine (prof_impl _ _ _ _ _ (hR.ext (by repeat (first | exact Ext.refl _ | assumption | refine Ext.alloc ?_ _ | refine Ext.drew ?_ | refine Ext.trans ?_ (by assumption))))).mono ?_; rintro e w1 ⟨rfl, hw1⟩; have q0 := Ext.keep (w' := w1) (by repeat (first | exact Ext.refl _ | assumption | refine Ext.alloc ?_ _ | refine Ext.drew ?_ | refine Ext.trans ?_ (by assumption))) q0; have q1 := Ext.keep (w' := w1) (by repeat (first | exact Ext.refl _ | assumption | refine Ext.alloc ?_ _ | refine Ext.drew ?_ | refine Ext.trans ?_ (by assumption))) q1)
    go_ret
    exact ⟨ret_int (run_one h0 HN.out).symm, (by repeat (first | exact Ext.refl _ | assumption | refine Ext.alloc ?_ _ | refine Ext.drew ?_ | refine Ext.trans ?_ (by assumption)))⟩
  have hn1 : ((n : Int) == 1) = false := by rw [beq_eq_false_iff_ne]; omega
  have hin : inR (n : Int) 1 5 = true := inR_iff.2 (by omega)
  go_enter Tryz.func44, Tryz.ntmps44
  go_wp2_with (go_at_call 36; refine (prof_impl _ _ _ _ _ (hR.ext (by repeat (first | exact Ext.refl _ | assumption | refine Ext.alloc ?_ _ | refine Ext.drew ?_ | refine Ext.trans ?_ (by assumption))))).mono ?_; rintro e w1 ⟨rfl, hw1⟩; have q0 := Ext.keep (w' := w1) (by repeat (first | exact Ext.refl _ | assumption | refine Ext.alloc ?_ _ | refine Ext.drew ?_ | refine Ext.trans ?_ (by assumption))) q0; have q1 := Ext.keep (w' := w1) (by repeat (first | exact Ext.refl _ | assumption | refine Ext.alloc ?_ _ | refine Ext.drew ?_ | refine Ext.trans ?_ (by assumption))) q1)
  have hw : Ext w w1 := (by repeat (first | exact Ext.refl _ | assumption | refine Ext.alloc ?_ _ | refine Ext.drew ?_ | refine Ext.trans ?_ (by assumption)))
  refine wp_region_X (by kernel_rfl) (by kernel_rfl) ?_
  repeat' (refine wpX_stepQ (fun K hK => ?_)
           go_simp
           try (rw [if_neg (by intro h; simp [undef] at h)])
           try split
           all_goals
             first
             | (refine hK _ ?_
                clear hK K)
             | (apply Exists.intro
                refine ⟨fun wq hwq => ?_, hK _ ?_⟩
                · have hcq := hwq.cellS
                  go_simp
                  first
                  | exact ⟨Ext.refl _, rfl⟩
                clear hK K))
  refine wpX_stepS rfl (by kernel_rfl) (fun K hK wq hwq => ?_)
  go_simp
  refine (plu_impl _ n).mono ?_
  rintro e w3 ⟨v, rfl, hv, hw3⟩
  refine ⟨hw3, hK _ _ ?_⟩
  clear hK K
  have hv := hv n rfl hin
  obtain ⟨av, cv, rfl, _, hRw, hju⟩ := hv.fr
  rw [rowL_len]
  have hw0 := hw.trans (hwq.trans hw3)
  have q0 := hw3.keep (hwq.keep q0)
  have q1 := hw3.keep (hwq.keep q1)
  obtain ⟨wb, hwb⟩ : ∃ wb : World, wb = w3 := ⟨_, rfl⟩
  subst hwb
  clear hw hwq hw3 hv hju
  refine wpX_stepS rfl (by kernel_rfl) (fun K hK wq hwq => ?_)
  go_simp
  refine (srk_impl _ _ a av c cv vs pluW n rfl (hR.ext (hw0.trans hwq)) (hRw.ext hwq) pluG h0).mono ?_
  rintro e w4 ⟨v, rfl, hv4, hw4⟩
  refine ⟨hw4, hK _ _ ?_⟩
  clear hK K
  obtain ⟨as', cs', rfl, _, hRs, hju⟩ := hv4.fr
  rw [srk_len]
  have hw := hw0.trans (hwq.trans hw4)
  have q0 := hw4.keep (hwq.keep q0)
  have q1 := hw4.keep (hwq.keep q1)
  clear hw0 hwq hw4 hv4 hju hRw
  repeat' (refine wpX_stepQ (fun K hK => ?_)
           go_simp
           try (rw [if_neg (by intro h; simp [undef] at h)])
           try split
           all_goals
             first
             | (refine hK _ ?_
                clear hK K)
             | (apply Exists.intro
                refine ⟨fun wq hwq => ?_, hK _ ?_⟩
                · have hcq := hwq.cellS
                  go_simp
                  first
                  | exact ⟨Ext.refl _, rfl⟩
                clear hK K))
  refine wpX_nil (fun wz hwz => ?_)
  have hw := hw.trans hwz
  have q0 := hwz.keep q0
  have q1 := hwz.keep q1
  have hRs := hRs.ext hwz
  obtain ⟨wc, hwc⟩ : ∃ wc : World, wc = wz := ⟨_, rfl⟩
  subst hwc
  clear hwz
  have hl := srk_len (scoV pluW vs) n
  obtain ⟨x, hx⟩ := at_of_lt (xs := srk (scoV pluW vs) n) (k := 0) (by omega)
  obtain ⟨y, hy⟩ := at_of_lt (xs := srk (scoV pluW vs) n) (k := 1) (by omega)
  have HV := hide (run_two h0 hn hx hy)
  have hxy : x ≠ y := fun e => by
    rw [← e] at hy
    exact absurd (nodup_inj (srk_nodup _ _) hx hy) (by decide)
  obtain ⟨b, off, rfl, c0⟩ := hRs.at_ hx
  obtain ⟨b2, off2, hb, c1⟩ := hRs.at_ hy
  injection hb with hb
  injection hb with hb hb2
  subst hb
  subst hb2
  rw [Nat.add_zero] at c0
  have i1 : 0 < n := by omega
  have i2 : 1 < n := by omega
  have i3 : (1 : Int) < (n : Int) := by omega
  have i4 : (0 : Int) < (n : Int) := by omega
  clear hl hx hy
  rcases (show x < y ∨ y < x by omega) with hlt | hlt
  · have e1 : min x y = x := by omega
    have e2 : max x y = y := by omega
    rw [e1, e2] at HV
    clear e1 e2
    have t1 : ¬ y < x := by omega
    have t2 : x ≤ y := by omega
    have t3 : ¬ y ≤ x := by omega
    cases hb : beatsV vs y x
    all_goals
      go_wp2
      refine wp_region_X (by kernel_rfl) (by kernel_rfl) ?_
      repeat' (refine wpX_stepQ (fun K hK => ?_)
               go_simp
               try (rw [if_neg (by intro h; simp [undef] at h)])
               try split
               all_goals
                 first
                 | (refine hK _ ?_
                    clear hK K)
                 | (apply Exists.intro
                    refine ⟨fun wq hwq => ?_, hK _ ?_⟩
                    · have hcq := hwq.cellS
                      go_simp
                      first
                      | exact ⟨Ext.refl _, rfl⟩
                    clear hK K))
      all_goals try (exfalso; omega)
      refine wpX_nil (fun wz hwz => ?_)
      have hw := hw.trans hwz
      have q0 := hwz.keep q0
      have q1 := hwz.keep q1
      go_wp2_with (go_at_call 93; refine (beats_impl _ _ _ _ _ _ _ (hR.ext (by repeat (first | exact Ext.refl _ | assumption | refine Ext.alloc ?_ _ | refine Ext.drew ?_ | refine Ext.trans ?_ (by assumption)))) HS.out).mono ?_; rintro e w1 ⟨rfl, hw1⟩)
      go_ret
      rw [HV.out, hb]
      exact ⟨rfl, (by repeat (first | exact Ext.refl _ | assumption | refine Ext.alloc ?_ _ | refine Ext.drew ?_ | refine Ext.trans ?_ (by assumption)))⟩
  · have e1 : min x y = y := by omega
    have e2 : max x y = x := by omega
    rw [e1, e2] at HV
    clear e1 e2
    have t1 : ¬ x < y := by omega
    have t2 : y ≤ x := by omega
    have t3 : ¬ x ≤ y := by omega
    cases hb : beatsV vs x y
    all_goals
      go_wp2
      refine wp_region_X (by kernel_rfl) (by kernel_rfl) ?_
      repeat' (refine wpX_stepQ (fun K hK => ?_)
               go_simp
               try (rw [if_neg (by intro h; simp [undef] at h)])
               try split
               all_goals
                 first
                 | (refine hK _ ?_
                    clear hK K)
                 | (apply Exists.intro
                    refine ⟨fun wq hwq => ?_, hK _ ?_⟩
                    · have hcq := hwq.cellS
                      go_simp
                      first
                      | exact ⟨Ext.refl _, rfl⟩
                    clear hK K))
      all_goals try (exfalso; omega)
      refine wpX_nil (fun wz hwz => ?_)
      have hw := hw.trans hwz
      have q0 := hwz.keep q0
      have q1 := hwz.keep q1
      go_wp2_with (go_at_call 93; refine (beats_impl _ _ _ _ _ _ _ (hR.ext (by repeat (first | exact Ext.refl _ | assumption | refine Ext.alloc ?_ _ | refine Ext.drew ?_ | refine Ext.trans ?_ (by assumption)))) HS.out).mono ?_; rintro e w1 ⟨rfl, hw1⟩)
      go_ret
      rw [HV.out, hb]
      exact ⟨rfl, (by repeat (first | exact Ext.refl _ | assumption | refine Ext.alloc ?_ _ | refine Ext.drew ?_ | refine Ext.trans ?_ (by assumption)))⟩

def worF (vs : List Vt) (left : List Int) (x : Int) : Int := sumV (fsP left x) vs
def worL (vs : List Vt) (left : List Int) (x : Int) : Int := -sumV (lsP left x) vs
def worP (vs : List Vt) (left : List Int) (x : Int) : Int := (left.map (fun b => pairV vs x b)).sum

set_option maxRecDepth 100000 in
theorem pairs_bd {sz : Int} {vs : List Vt} (hS : SmallV sz vs) (x : Int) : ∀ left : List Int, 0 ≤ (left.map (fun b => pairV vs x b)).sum ∧ (left.map (fun b => pairV vs x b)).sum ≤ 24000 * left.length
  | [] => by simp
  | b :: left => by
    have h1 := pairs_bd hS x left
    have h2 : 0 ≤ pairV vs x b ∧ pairV vs x b ≤ 24000 := sumV_bd' hS
    simp only [List.map_cons, List.sum_cons, List.length_cons]
    omega

set_option maxRecDepth 100000 in
set_option maxHeartbeats 1000000 in
theorem instOne (w : World) (gp : Nat) (n : Nat) (a al : Option Addr) (c cl : Nat) (vs : List Vt) (left : List Int) (x : Int) (hR : RdV w a vs) (hS : SmallV n vs) (hL : RdI w al left) (hll : left.length ≤ 2000000)
    (h0 : w.cell? ⟨gp, 0, none⟩ = some (.int .i64 n)) (h1 : w.cell? ⟨gp, 1, none⟩ = some (.slice a vs.length c)) :
    Calls Tryz.prog 95 #[.slice al left.length cl, .int .i64 x, .pointer (some ⟨gp, 0, none⟩)] w fun e w' => e = .returned (.int .i64 (worF vs left x)) ∧ Ext w w' := by
  go_enter Tryz.func95, Tryz.ntmps95
  go_wp2_with (go_at_call 96; refine (first_impl _ _ _ _ _ _ _ _ _ (hR.ext (by repeat (first | exact Ext.refl _ | assumption | refine Ext.alloc ?_ _ | refine Ext.drew ?_ | refine Ext.trans ?_ (by assumption)))) hS (hL.ext (by repeat (first | exact Ext.refl _ | assumption | refine Ext.alloc ?_ _ | refine Ext.drew ?_ | refine Ext.trans ?_ (by assumption)))) hll).mono ?_; rintro e w1 ⟨rfl, hw1⟩)
  go_ret
  exact ⟨rfl, (by repeat (first | exact Ext.refl _ | assumption | refine Ext.alloc ?_ _ | refine Ext.drew ?_ | refine Ext.trans ?_ (by assumption)))⟩

set_option maxRecDepth 100000 in
set_option maxHeartbeats 1000000 in
theorem coomOne (w : World) (gp : Nat) (n : Nat) (a al : Option Addr) (c cl : Nat) (vs : List Vt) (left : List Int) (x : Int) (hR : RdV w a vs) (hS : SmallV n vs) (hL : RdI w al left) (hll : left.length ≤ 2000000)
    (h0 : w.cell? ⟨gp, 0, none⟩ = some (.int .i64 n)) (h1 : w.cell? ⟨gp, 1, none⟩ = some (.slice a vs.length c)) :
    Calls Tryz.prog 97 #[.slice al left.length cl, .int .i64 x, .pointer (some ⟨gp, 0, none⟩)] w fun e w' => e = .returned (.int .i64 (worL vs left x)) ∧ Ext w w' := by
  have hb : 0 ≤ sumV (lsP left x) vs ∧ sumV (lsP left x) vs ≤ 24000 := sumV_bd' hS
  have y1 : wrap64 (-sumV (lsP left x) vs) = -sumV (lsP left x) vs := IntWalk.wrap64_in _ (by omega)
  have y2 : IntKind.i64.wrap (-sumV (lsP left x) vs) = -sumV (lsP left x) vs := IntWalk.i64_in _ (by omega)
  clear hb
  go_enter Tryz.func97, Tryz.ntmps97
  go_wp2_with (go_at_call 98; refine (last_impl _ _ _ _ _ _ _ _ _ (hR.ext (by repeat (first | exact Ext.refl _ | assumption | refine Ext.alloc ?_ _ | refine Ext.drew ?_ | refine Ext.trans ?_ (by assumption)))) hS (hL.ext (by repeat (first | exact Ext.refl _ | assumption | refine Ext.alloc ?_ _ | refine Ext.drew ?_ | refine Ext.trans ?_ (by assumption)))) hll).mono ?_; rintro e w1 ⟨rfl, hw1⟩)
  go_ret
  exact ⟨rfl, (by repeat (first | exact Ext.refl _ | assumption | refine Ext.alloc ?_ _ | refine Ext.drew ?_ | refine Ext.trans ?_ (by assumption)))⟩

set_option maxRecDepth 100000 in
set_option maxHeartbeats 1000000 in
theorem baldOne (w : World) (gp : Nat) (n : Nat) (a al : Option Addr) (c cl : Nat) (vs : List Vt) (left : List Int) (x : Int) (hR : RdV w a vs) (hS : SmallV n vs) (hL : RdI w al left) (hll : left.length ≤ 5)
    (h0 : w.cell? ⟨gp, 0, none⟩ = some (.int .i64 n)) (h1 : w.cell? ⟨gp, 1, none⟩ = some (.slice a vs.length c)) :
    Calls Tryz.prog 99 #[.slice al left.length cl, .int .i64 x, .pointer (some ⟨gp, 0, none⟩)] w fun e w' => e = .returned (.int .i64 (worP vs left x)) ∧ Ext w w' := by
  have HS := hide hS
  clear hS
  go_enter Tryz.func99, Tryz.ntmps99
  go_wp2_with fail
  go_loopw [6, 8, 11] (fun s _ i wr => ∃ k : Nat, k ≤ left.length ∧ i = .int .i64 k ∧ s = .int .i64 (worP vs (left.take k) x) ∧ Ext w wr) (fun _ _ i _ => left.length - (intOf i).toNat)
  case atStart => exact ⟨0, Nat.zero_le _, rfl, rfl, Ext.refl _⟩
  case round =>
    obtain ⟨k, hk, rfl, rfl, hwr⟩ := hrel
    have r0 := hwr.keep h0
    have r1 := hwr.keep h1
    by_cases hlt : k < left.length
    · obtain ⟨b, hb⟩ := at_of_lt hlt
      obtain ⟨bb, off, rfl, d0⟩ := (hL.ext hwr).at_ hb
      have b1 := pairs_bd HS.out x (left.take k)
      rw [List.length_take] at b1
      have b2 : 0 ≤ pairV vs x b ∧ pairV vs x b ≤ 24000 := sumV_bd' HS.out
      have b3 : worP vs (left.take (k + 1)) x = worP vs (left.take k) x + pairV vs x b := by unfold worP; rw [take_at hb]; simp
      have b4 : 0 ≤ worP vs (left.take k) x ∧ worP vs (left.take k) x ≤ 120000 := by unfold worP; omega
      have HB := hide b3
      clear b1 b3 hb
      go_wp2_with (go_at_call 91; refine (pairI_impl _ _ _ _ _ _ _ ((hR.ext hwr).ext (by repeat (first | exact Ext.refl _ | assumption | refine Ext.alloc ?_ _ | refine Ext.drew ?_ | refine Ext.trans ?_ (by assumption)))) HS.out).mono ?_; rintro e w1 ⟨rfl, hw1⟩)
      exact ⟨⟨k + 1, by omega, by go_num, by rw [HB.out], (by repeat (first | exact Ext.refl _ | assumption | refine Ext.alloc ?_ _ | refine Ext.drew ?_ | refine Ext.trans ?_ (by assumption)))⟩, by simp [intOf]; omega⟩
    · go_wp2
      go_ret
      exact ⟨ret_int (by rw [List.take_of_length_le (by omega)]), hwr⟩

set_option maxRecDepth 100000 in
set_option maxHeartbeats 1000000 in
theorem inst_impl (w : World) (sz : Int) (a : Option Addr) (c : Nat) (vs : List Vt) (hR : RdV w a vs) :
    Calls Tryz.prog 46 #[.agg #[.int .i64 sz, .slice a vs.length c]] w fun e w' => ∃ v, e = .returned v ∧ OwnI w' w.heap.size v (elimO sz vs (worF vs)) ∧ Ext w w' := by
  have q0 := new0 w (.int .i64 sz) [.slice a vs.length c] 29
  have q1 := new1 w (.int .i64 sz) (.slice a vs.length c) [] 29
  go_enter Tryz.func46, Tryz.ntmps46
  go_wp2_with fail
  refine (elim_impl 95 #[.pointer (some ⟨w.heap.size, 0, none⟩)] (worF vs) _ sz a c vs (hR.ext (by repeat (first | exact Ext.refl _ | assumption | refine Ext.alloc ?_ _ | refine Ext.drew ?_ | refine Ext.trans ?_ (by assumption)))) Tryz.call95 (fun n left x al cl w' hn hn5 hS _ hll _ hw' hL => ?_)).mono ?_
  · subst hn
    exact instOne w' w.heap.size n a al c cl vs left x (hR.ext ((Ext.new w _).trans hw')) hS hL (by omega) (hw'.keep q0) (hw'.keep q1)
  rintro e w1 ⟨v, rfl, hv, hw1⟩
  go_wp2
  go_ret
  exact ⟨_, rfl, hv.base (Ext.size (by repeat (first | exact Ext.refl _ | assumption | refine Ext.alloc ?_ _ | refine Ext.drew ?_ | refine Ext.trans ?_ (by assumption)))), (by repeat (first | exact Ext.refl _ | assumption | refine Ext.alloc ?_ _ | refine Ext.drew ?_ | refine Ext.trans ?_ (by assumption)))⟩

set_option maxRecDepth 100000 in
set_option maxHeartbeats 1000000 in
theorem coom_impl (w : World) (sz : Int) (a : Option Addr) (c : Nat) (vs : List Vt) (hR : RdV w a vs) :
    Calls Tryz.prog 47 #[.agg #[.int .i64 sz, .slice a vs.length c]] w fun e w' => ∃ v, e = .returned v ∧ OwnI w' w.heap.size v (elimO sz vs (worL vs)) ∧ Ext w w' := by
  have q0 := new0 w (.int .i64 sz) [.slice a vs.length c] 29
  have q1 := new1 w (.int .i64 sz) (.slice a vs.length c) [] 29
  go_enter Tryz.func47, Tryz.ntmps47
  go_wp2_with fail
  refine (elim_impl 97 #[.pointer (some ⟨w.heap.size, 0, none⟩)] (worL vs) _ sz a c vs (hR.ext (by repeat (first | exact Ext.refl _ | assumption | refine Ext.alloc ?_ _ | refine Ext.drew ?_ | refine Ext.trans ?_ (by assumption)))) Tryz.call97 (fun n left x al cl w' hn hn5 hS _ hll _ hw' hL => ?_)).mono ?_
  · subst hn
    exact coomOne w' w.heap.size n a al c cl vs left x (hR.ext ((Ext.new w _).trans hw')) hS hL (by omega) (hw'.keep q0) (hw'.keep q1)
  rintro e w1 ⟨v, rfl, hv, hw1⟩
  go_wp2
  go_ret
  exact ⟨_, rfl, hv.base (Ext.size (by repeat (first | exact Ext.refl _ | assumption | refine Ext.alloc ?_ _ | refine Ext.drew ?_ | refine Ext.trans ?_ (by assumption)))), (by repeat (first | exact Ext.refl _ | assumption | refine Ext.alloc ?_ _ | refine Ext.drew ?_ | refine Ext.trans ?_ (by assumption)))⟩

set_option maxRecDepth 100000 in
set_option maxHeartbeats 1000000 in
theorem bald_impl (w : World) (sz : Int) (a : Option Addr) (c : Nat) (vs : List Vt) (hR : RdV w a vs) :
    Calls Tryz.prog 48 #[.agg #[.int .i64 sz, .slice a vs.length c]] w fun e w' => ∃ v, e = .returned v ∧ OwnI w' w.heap.size v (elimO sz vs (worP vs)) ∧ Ext w w' := by
  have q0 := new0 w (.int .i64 sz) [.slice a vs.length c] 29
  have q1 := new1 w (.int .i64 sz) (.slice a vs.length c) [] 29
  go_enter Tryz.func48, Tryz.ntmps48
  go_wp2_with fail
  refine (elim_impl 99 #[.pointer (some ⟨w.heap.size, 0, none⟩)] (worP vs) _ sz a c vs (hR.ext (by repeat (first | exact Ext.refl _ | assumption | refine Ext.alloc ?_ _ | refine Ext.drew ?_ | refine Ext.trans ?_ (by assumption)))) Tryz.call99 (fun n left x al cl w' hn hn5 hS _ hll _ hw' hL => ?_)).mono ?_
  · subst hn
    exact baldOne w' w.heap.size n a al c cl vs left x (hR.ext ((Ext.new w _).trans hw')) hS hL (by omega) (hw'.keep q0) (hw'.keep q1)
  rintro e w1 ⟨v, rfl, hv, hw1⟩
  go_wp2
  go_ret
  exact ⟨_, rfl, hv.base (Ext.size (by repeat (first | exact Ext.refl _ | assumption | refine Ext.alloc ?_ _ | refine Ext.drew ?_ | refine Ext.trans ?_ (by assumption)))), (by repeat (first | exact Ext.refl _ | assumption | refine Ext.alloc ?_ _ | refine Ext.drew ?_ | refine Ext.trans ?_ (by assumption)))⟩

set_option maxRecDepth 100000 in
set_option maxHeartbeats 1000000 in
theorem out_spec (w : World) (a : Option Addr) (c : Nat) (out : List Int) (x : Int) (hR : RdI w a out) (hl : out.length ≤ 2000000) :
    Calls Tryz.prog 207 #[.slice a out.length c, .int .i64 x] w fun e w' => e = .returned (.bool (hasI out x)) ∧ Ext w w' := by
  have he : decide (0 ≤ placeI out x) = hasI out x := by
    unfold placeI
    rw [findI_nonneg, Bool.eq_iff_iff, List.any_eq_true, hasI_iff]
    constructor
    · rintro ⟨y, hy, h⟩
      have : x = y := by simpa using h
      subst this; exact hy
    · intro h; exact ⟨x, h, by simp⟩
  go_enter Tryz.func207, Tryz.ntmps207
  go_wp2_with (go_at_call 130; refine (place_spec _ _ _ _ _ (hR.ext (by repeat (first | exact Ext.refl _ | assumption | refine Ext.alloc ?_ _ | refine Ext.drew ?_ | refine Ext.trans ?_ (by assumption)))) hl).mono ?_; rintro e w1 ⟨rfl, hw1⟩)
  go_ret
  exact ⟨rfl, (by repeat (first | exact Ext.refl _ | assumption | refine Ext.alloc ?_ _ | refine Ext.drew ?_ | refine Ext.trans ?_ (by assumption)))⟩

def numC (out : List Int) (x : Int) (last : Bool) (r : List Int) (b : Nat) : Bool := (((b : Int) == x) || hasI out b) || (prefB r x b != last)
def numP (n : Nat) (out : List Int) (x : Int) (last : Bool) (r : List Int) : Bool := allN n (numC out x last r)

set_option maxRecDepth 100000 in
theorem num_first {n : Nat} {vs : List Vt} (hS : SmallV n vs) {x : Nat} (hx : x < n) (out : List Int) : sumV (numP n out x false) vs = worF vs (leftL n out) x := by
  unfold worF
  refine sumV_congr fun v hv => ?_
  have hr := (hS.2 v hv).1
  unfold numP fsP
  rw [Bool.eq_iff_iff, allN_iff, Bool.not_eq_true', List.any_eq_false]
  constructor
  · intro h b hb
    obtain ⟨i, hi, hio, rfl⟩ := leftL_mem.1 hb
    have h1 := h i hi
    have h2 : hasI out (i : Int) = false := by
      cases h3 : hasI out (i : Int)
      · rfl
      · exact absurd (hasI_iff.1 h3) hio
    by_cases e : i = x
    · subst e; rw [pref_self]; simp
    · rw [pref_tot hr hi hx e]
      have h4 : ((i : Int) == (x : Int)) = false := by simp; omega
      simp only [numC, h2, h4] at h1
      simp at h1
      simp [h1]
  · intro h i hi
    unfold numC
    by_cases e : i = x
    · subst e; simp
    · cases h3 : hasI out (i : Int)
      · have h1 := h (i : Int) (leftL_mem.2 ⟨i, hi, (fun h4 => by rw [hasI_iff.2 h4] at h3; cases h3), rfl⟩)
        rw [pref_tot hr hi hx e] at h1
        simp at h1
        simp [h1]
      · simp
set_option maxRecDepth 100000 in
theorem num_last {n : Nat} {vs : List Vt} {x : Nat} (out : List Int) : sumV (numP n out x true) vs = sumV (lsP (leftL n out) x) vs := by
  refine sumV_congr fun v hv => ?_
  unfold numP lsP
  rw [Bool.eq_iff_iff, allN_iff, Bool.not_eq_true', List.any_eq_false]
  constructor
  · intro h b hb
    obtain ⟨i, hi, hio, rfl⟩ := leftL_mem.1 hb
    have h1 := h i hi
    have h2 : hasI out (i : Int) = false := by
      cases h3 : hasI out (i : Int)
      · rfl
      · exact absurd (hasI_iff.1 h3) hio
    by_cases e : i = x
    · subst e; rw [pref_self]; simp
    · have h4 : ((i : Int) == (x : Int)) = false := by simp; omega
      simp only [numC, h2, h4] at h1
      simp at h1
      simp [h1]
  · intro h i hi
    unfold numC
    cases h3 : hasI out (i : Int)
    · have h1 := h (i : Int) (leftL_mem.2 ⟨i, hi, (fun h4 => by rw [hasI_iff.2 h4] at h3; cases h3), rfl⟩)
      simp at h1
      simp [h1]
    · simp

def sumO (vs : List Vt) (out : List Int) (x : Int) : Nat → Int
  | 0 => 0
  | k + 1 => sumO vs out x k + if !((k : Int) == x) && !hasI out k then pairV vs x k else 0
set_option maxRecDepth 100000 in
theorem sumO_bd {sz : Int} {vs : List Vt} (hS : SmallV sz vs) (out : List Int) (x : Int) : ∀ k : Nat, 0 ≤ sumO vs out x k ∧ sumO vs out x k ≤ 24000 * k
  | 0 => by simp [sumO]
  | k + 1 => by
    have h1 := sumO_bd hS out x k
    have h2 : 0 ≤ pairV vs x k ∧ pairV vs x k ≤ 24000 := sumV_bd' hS
    unfold sumO
    split <;> omega
set_option maxRecDepth 100000 in
theorem pair_self (vs : List Vt) (x : Int) : pairV vs x x = 0 := by
  unfold pairV
  rw [sumV_congr (q := fun _ => false) (fun v _ => pref_self _ _), sumV_none]
set_option maxRecDepth 100000 in
theorem sumO_left (vs : List Vt) (out : List Int) (x : Int) : ∀ k : Nat, sumO vs out x k = worP vs (leftL k out) x
  | 0 => rfl
  | k + 1 => by
    have e : leftL (k + 1) out = leftL k out ++ if notIn out k then [(k : Int)] else [] := upL_succ k (notIn out)
    rw [sumO, sumO_left vs out x k, e]
    unfold worP notIn
    rw [List.map_append, List.sum_append]
    cases h1 : hasI out (k : Int)
    · by_cases h2 : (k : Int) = x
      · subst h2; simp [pair_self]
      · simp [h2]
    · simp

/-- The worth by kind: first places, last places, pairs. -/
def worK (vs : List Vt) (kind : Nat) : List Int → Int → Int := if kind = 0 then worF vs else if kind = 1 then worL vs else worP vs

set_option maxRecDepth 100000 in
theorem OwnI.formR' {w : World} {B : Nat} {u : Value} {xs : List Int} (h : OwnI w B u xs) : ∃ a n c, u = .slice a n c ∧ n = xs.length ∧ RdI w a xs := by
  obtain ⟨a, c, rfl, _, _, hR, _⟩ := h.val
  exact ⟨_, _, _, rfl, rfl, hR⟩
set_option maxRecDepth 100000 in
theorem pick_nat {n : Nat} {f : Int → Int} {q : Nat → Bool} {i : Nat} (hi : i ≤ n) (hne : upL i q ≠ []) : ∃ p : Nat, p < n ∧ pickV f (upL i q) = p := by
  have h := pickV_mem (f := f) hne
  obtain ⟨p, hp, _, e⟩ := upL_mem.1 h
  exact ⟨p, by omega, e⟩

open Go.RowKit

end Go.Proofs.YtilcdnkkabmbfaaGreat
