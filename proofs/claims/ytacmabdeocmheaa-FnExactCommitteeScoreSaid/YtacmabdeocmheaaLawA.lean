/- The statements' own helpers on approvals: measured, copied, compared. -/
import Derived.Test.YtacmabdeocmheaaMem
namespace Go.Proofs.Ytacmabdeocmheaa
open Go.RowKit

def szA (n left : Int) : Int := if left - n < 0 then -1 else left - n

set_option maxRecDepth 100000 in
set_option maxHeartbeats 1000000 in
theorem szAS (w : World) (a : Option Addr) (n c : Nat) (left : Int) (hn : n ≤ maxLen) (h0 : 0 ≤ left) (h1 : left ≤ 2000000) :
    Calls Try.prog 111 #[.slice a n c, .int .i64 left] w fun e w' => e = .returned (.int .i64 (szA n left)) ∧ Ext w w' := by
  unfold maxLen at hn
  by_cases h : left - n < 0
  all_goals
    go_enter Try.func111, Try.ntmps111
    go_wp2
    go_ret
    exact ⟨ret_int (by unfold szA; first | rw [if_pos (by omega)] | rw [if_neg (by omega)]), Ext.refl _⟩

set_option maxRecDepth 100000 in
theorem info_i : (Try.prog.info? 72).map (fun i => (i.zero, i.size, i.bytes)) = some (some (.agg #[.int .i64 0, .int .i64 0]), 2, 16) := by kernel_rfl

set_option maxRecDepth 100000 in
set_option maxHeartbeats 1000000 in
theorem toA1 (w : World) (x y : Int) :
    Calls Try.prog 225 #[.agg #[.int .i64 x, .int .i64 y]] w fun e w' => e = .returned (.agg #[.int .i64 x, .int .i64 y]) ∧ Ext w w' := by
  go_enter Try.func225, Try.ntmps225
  go_wp2
  exact bodyPost_ret (v := .agg #[.int .i64 x, .int .i64 y]) (by simp [results, Try.results225, go_sem]) rfl ⟨rfl, (by repeat (first | exact Ext.refl _ | assumption | refine Ext.alloc ?_ _ | refine Ext.drew ?_ | refine Ext.trans ?_ (by assumption)))⟩

set_option maxRecDepth 100000 in
set_option maxHeartbeats 1000000 in
theorem toAS (w : World) (a : Option Addr) (c : Nat) (bs : List (Int × Int)) (hR : RdP w a bs) (hl : bs.length ≤ 1048576) :
    Calls Try.prog 116 #[.slice a bs.length c] w fun e w' => ∃ g f, e = .returned (.slice (some ⟨g, 0, none⟩) bs.length bs.length) ∧ w.heap.size ≤ g ∧
      BlkF w' g (bs.length * 2) f ∧ (∀ j x, bs[j]? = some x → f (j * 2) = .int .i64 x.1 ∧ f (j * 2 + 1) = .int .i64 x.2) ∧ Ext w w' := by
  obtain ⟨i0, hi, hz0, hz1, hz2⟩ := info_parts info_i
  have hmk := fun W => run_make_rowN (P := Try.prog) 30 72 i0 _ Try.underlying30 hi hz0 .i64 .i64 bs.length bs.length (Nat.le_refl _) (by rw [hz2]; omega) (by omega) W
  rw [hz1] at hmk
  go_enter Try.func116, Try.ntmps116
  go_wp2_with fail
  go_loopw [4] (fun i wr => ∃ (k : Nat) (f : Nat → Value), k ≤ bs.length ∧ i = .int .i64 k ∧ BlkF wr w.heap.size (bs.length * 2) f ∧ (∀ j x, j < k → bs[j]? = some x → f (j * 2) = .int .i64 x.1 ∧ f (j * 2 + 1) = .int .i64 x.2) ∧ Ext w wr) (fun i _ => bs.length - (intOf i).toNat)
  case atStart => exact ⟨0, _, Nat.zero_le _, rfl, by have h := BlkF.new w (madeCells #[.int .i64 0, .int .i64 0] (bs.length * 2)) 72; rwa [size_madeCells] at h, fun j x h => absurd h (by omega), (by repeat (first | exact Ext.refl _ | assumption | refine Ext.alloc ?_ _ | refine Ext.drew ?_ | refine Ext.trans ?_ (by assumption)))⟩
  case round =>
    obtain ⟨k, f, hk, rfl, hB, hf, hwr⟩ := hrel
    by_cases hlt : k < bs.length
    · obtain ⟨x, hx⟩ := at_of_lt hlt
      obtain ⟨b, off, rfl, c0, c1⟩ := (hR.ext hwr).at_ hx
      have HF := hide hf
      clear hf
      go_wp2_with fail
      refine (toA1 _ _ _).mono ?_
      rintro e w1 ⟨rfl, hw1⟩
      have hB1 := hB.ext hw1
      have d0 := hB1.cell (k * 2) (by omega)
      have d1 := hB1.cell (k * 2 + 1) (by omega)
      have f0 := hB1.fr (k * 2)
      have f1 := hB1.fr (k * 2 + 1)
      go_wp2
      refine ⟨⟨k + 1, _, by omega, by go_num, (hB1.set (k * 2) (by omega) _).set (k * 2 + 1) (by omega) _, fun j y hj hy => ?_, ((hwr.trans hw1).setCell (Nat.le_refl _) _).setCell (Nat.le_refl _) _⟩, by simp [intOf]; omega⟩
      by_cases e : j = k
      · subst e
        rw [hx] at hy
        injection hy with hy
        subst hy
        refine ⟨?_, ?_⟩
        · rw [if_neg (by omega), if_pos rfl]
        · rw [if_pos rfl]
      · obtain ⟨r0, r1⟩ := HF.out j y (by omega) hy
        refine ⟨?_, ?_⟩
        · rw [if_neg (by omega), if_neg (by omega)]; exact r0
        · rw [if_neg (by omega), if_neg (by omega)]; exact r1
    · go_wp2
      go_ret
      exact ⟨_, f, rfl, Nat.le_refl _, hB, fun j x hx => hf j x (by have := lt_of_at hx; omega) hx, hwr⟩

set_option maxRecDepth 100000 in
theorem BlkF.rdP {w : World} {g n : Nat} {f : Nat → Value} {bs : List (Int × Int)} (hB : BlkF w g n f) (hn : bs.length * 2 ≤ n) (hf : ∀ j x, bs[j]? = some x → f (j * 2) = .int .i64 x.1 ∧ f (j * 2 + 1) = .int .i64 x.2) : RdP w (some ⟨g, 0, none⟩) bs := fun _ => by
  refine ⟨g, 0, rfl, fun j x hx => ?_⟩
  have := lt_of_at hx
  obtain ⟨h0, h1⟩ := hf j x hx
  rw [Nat.zero_add, hB.cell _ (by omega), hB.cell _ (by omega), h0, h1]
  exact ⟨rfl, rfl⟩

set_option maxRecDepth 100000 in
set_option maxHeartbeats 1000000 in
theorem szA_any (w : World) (sz : Int) (a : Option Addr) (n c : Nat) (left : Int) (hn : n ≤ maxLen) (h0 : 0 ≤ left) (h1 : left ≤ 2000000) :
    Calls Try.prog 15 #[.agg #[.int .i64 sz, .slice a n c], .int .i64 left] w fun e w' => e = .returned (.int .i64 (szA n left)) ∧ Ext w w' := by
  by_cases h : szA n left < 0
  all_goals
    go_enter Try.func15, Try.ntmps15
    go_wp2_with (go_at_call 111; refine (szAS _ _ _ _ _ hn h0 h1).mono ?_; rintro e w1 ⟨rfl, hw1⟩; have hc1 := hw1.cellS; have hf1 := hw1.frozenS)
    go_ret
    exact ⟨ret_int (by unfold szA at *; first | rfl | (split at * <;> omega)), (by repeat (first | exact Ext.refl _ | assumption | refine Ext.alloc ?_ _ | refine Ext.drew ?_ | refine Ext.trans ?_ (by assumption)))⟩

set_option maxRecDepth 100000 in
set_option maxHeartbeats 1000000 in
theorem toA (w : World) (sz : Int) (a : Option Addr) (c : Nat) (bs : List (Int × Int)) (hR : RdP w a bs) (hl : bs.length ≤ 1048576) :
    Calls Try.prog 17 #[.agg #[.int .i64 sz, .slice a bs.length c]] w fun e w' => ∃ g f, e = .returned (.agg #[.int .i64 sz, .slice (some ⟨g, 0, none⟩) bs.length bs.length]) ∧ w.heap.size ≤ g ∧
      BlkF w' g (bs.length * 2) f ∧ (∀ j x, bs[j]? = some x → f (j * 2) = .int .i64 x.1 ∧ f (j * 2 + 1) = .int .i64 x.2) ∧ Ext w w' := by
  go_enter Try.func17, Try.ntmps17
  go_wp2_with fail
  refine (toAS _ _ _ _ (hR.ext (by repeat (first | exact Ext.refl _ | assumption | refine Ext.alloc ?_ _ | refine Ext.drew ?_ | refine Ext.trans ?_ (by assumption)))) hl).mono ?_
  rintro e w1 ⟨g, f, rfl, hg, hB, hf, hw1⟩
  have p0 := hw1.keep (p := ⟨w.heap.size + 1 + 1, 0, none⟩) (v := .int .i64 sz) (by go_simp)
  have p1 := hw1.keep (p := ⟨w.heap.size + 1 + 1, 1, none⟩) (v := .slice none 0 0) (by go_simp)
  have p2 := hw1.keep (p := ⟨w.heap.size + 1, 0, none⟩) (v := .int .i64 0) (by go_simp)
  have p3 := hw1.keep (p := ⟨w.heap.size + 1, 1, none⟩) (v := .slice none 0 0) (by go_simp)
  have z1 : w1.frozen? ⟨w.heap.size + 1 + 1, 1, none⟩ = false := (hw1.frozenS _ (by go_simp)).trans (by go_simp)
  have z2 : w1.frozen? ⟨w.heap.size + 1, 0, none⟩ = false := (hw1.frozenS _ (by go_simp)).trans (by go_simp)
  have z3 : w1.frozen? ⟨w.heap.size + 1, 1, none⟩ = false := (hw1.frozenS _ (by go_simp)).trans (by go_simp)
  have HF := hide hf
  clear hf
  go_wp2
  refine bodyPost_ret (v := .agg #[.int .i64 sz, .slice (some ⟨g, 0, none⟩) bs.length bs.length]) (by simp [results, Try.results17, go_sem, p2, p3]) rfl ⟨g, f, rfl, ?_, ?_, HF.out, ?_⟩
  · have := (Ext.refl w).alloc (.cells #[.int .i64 sz, .slice a bs.length c] 24) |>.size
    simp at hg
    omega
  · simp at hg
    exact ((hB.far (by simp; omega) _).far (by simp; omega) _).far (by simp; omega) _
  · exact ((((by simpa using hw1.a.a.a : Ext w w1).setCell (by simp; omega) _).setCell (by simp) _).setCell (by simp) _)

set_option maxRecDepth 100000 in
set_option maxHeartbeats 1000000 in
theorem eqA1 (w : World) (x y : Int × Int) :
    Calls Try.prog 227 #[.agg #[.int .i64 x.1, .int .i64 x.2], .agg #[.int .i64 y.1, .int .i64 y.2]] w fun e w' => e = .returned (.bool (decide (x = y))) ∧ Ext w w' := by
  obtain ⟨x1, x2⟩ := x
  obtain ⟨y1, y2⟩ := y
  by_cases h1 : x1 = y1 <;> by_cases h2 : x2 = y2
  all_goals
    go_enter Try.func227, Try.ntmps227
    go_wp2
    go_ret
    exact ⟨ret_bool (by simp [h1, h2]), (by repeat (first | exact Ext.refl _ | assumption | refine Ext.alloc ?_ _ | refine Ext.drew ?_ | refine Ext.trans ?_ (by assumption)))⟩

set_option maxRecDepth 100000 in
set_option maxHeartbeats 1000000 in
theorem eqASn (w : World) (a1 a2 : Option Addr) (c1 c2 n : Nat) (xs ys : List (Int × Int)) (hX : RdP w a1 xs) (hY : RdP w a2 ys) (hl : n ≤ 2000000) (hxn : Hid (xs.length = n)) (hyn : Hid (ys.length = n)) :
    Calls Try.prog 120 #[.slice a1 n c1, .slice a2 n c2] w fun e w' => e = .returned (.bool (decide (xs = ys))) ∧ Ext w w' := by
  go_enter Try.func120, Try.ntmps120
  go_wp2_with fail
  go_loopw [5] (fun i wr => ∃ k : Nat, k ≤ n ∧ i = .int .i64 k ∧ Hid (xs.take k = ys.take k) ∧ Ext w wr) (fun i _ => n - (intOf i).toNat)
  case atStart => exact ⟨0, Nat.zero_le _, rfl, rfl, Ext.refl _⟩
  case round =>
    obtain ⟨k, hk, rfl, hall, hwr⟩ := hrel
    by_cases hlt : k < n
    · obtain ⟨x, hx⟩ := at_of_lt (xs := xs) (k := k) (by rw [hxn.out]; exact hlt)
      obtain ⟨y, hy⟩ := at_of_lt (xs := ys) (k := k) (by rw [hyn.out]; exact hlt)
      obtain ⟨b, off, rfl, c0, c1⟩ := (hX.ext hwr).at_ hx
      obtain ⟨b', off', rfl, d0, d1⟩ := (hY.ext hwr).at_ hy
      have hx' := hide hx
      have hy' := hide hy
      clear hx hy
      by_cases e : x = y
      all_goals
        go_wp2
        refine wp_region_X (by kernel_rfl) (by kernel_rfl) ?_
        repeat' (refine wpX_stepQ (fun K hK => ?_)
                 go_simp
                 try (rw [if_neg (by intro h; simp [undef] at h)])
                 try split
                 all_goals
                   first
                   | (refine hK _ ?_
                      clear hK K)
                   | (apply Exists.intro
                      refine ⟨fun wq hwq => ?_, hK _ ?_⟩
                      · have hcq := hwq.cellS
                        go_simp
                        first
                        | exact ⟨Ext.refl _, rfl⟩
                        | exact ⟨Ext.refl _, eqA1 _ _ _⟩
                      clear hK K))
        refine wpX_nil (fun wz hwz => ?_)
        go_wp2
      · exact ⟨⟨k + 1, by omega, by go_num, take_ext hall.out hx'.out hy'.out e, hwr.trans hwz⟩, by simp [intOf]; omega⟩
      · go_ret
        refine ⟨ret_bool ?_, hwr.trans hwz⟩
        have h1 := hx'.out
        have h2 := hy'.out
        symm
        rw [decide_eq_false_iff_not]
        rintro rfl
        rw [h1] at h2
        injection h2 with h2
        exact e h2
    · go_wp2
      go_ret
      refine ⟨ret_bool ?_, hwr⟩
      have h := hall.out
      rw [List.take_of_length_le (by rw [hxn.out]; omega), List.take_of_length_le (by rw [hyn.out]; omega)] at h
      simp [h]

set_option maxRecDepth 100000 in
theorem eqAS (w : World) (a1 a2 : Option Addr) (c1 c2 : Nat) (xs ys : List (Int × Int)) (hX : RdP w a1 xs) (hY : RdP w a2 ys) (hl : xs.length ≤ 2000000) :
    Calls Try.prog 120 #[.slice a1 xs.length c1, .slice a2 ys.length c2] w fun e w' => e = .returned (.bool (decide (xs = ys))) ∧ Ext w w' := by
  by_cases hlen : xs.length = ys.length
  · rw [← hlen]
    exact eqASn w a1 a2 c1 c2 xs.length xs ys hX hY hl rfl hlen.symm
  · go_enter Try.func120, Try.ntmps120
    go_wp2
    go_ret
    exact ⟨ret_bool (by simp; rintro rfl; exact hlen rfl), (by repeat (first | exact Ext.refl _ | assumption | refine Ext.alloc ?_ _ | refine Ext.drew ?_ | refine Ext.trans ?_ (by assumption)))⟩

end Go.Proofs.Ytacmabdeocmheaa
