/- Weights of places and the scores by them, of the spec. -/
import Derived.Test.YtagepfgncbgncaaMaj
namespace Go.Proofs.Ytagepfgncbgncaa
open Go.RowKit

def borW (n : Nat) (j : Nat) : Int := ((n - 1 - j : Nat) : Int)
def vetW (n : Nat) (j : Nat) : Int := if j + 1 < n then 1 else 0
set_option maxRecDepth 100000 in
theorem borG {n : Nat} (hn : n ≤ 5) : GoodW (borW n) := ⟨fun j => by unfold borW; omega, fun j => by unfold borW; omega⟩
set_option maxRecDepth 100000 in
theorem vetG (n : Nat) : GoodW (vetW n) := ⟨fun j => by unfold vetW; split <;> omega, fun j => by unfold vetW; split <;> split <;> omega⟩

set_option maxRecDepth 100000 in
theorem set0_at {n j : Nat} (hj : j < n) : ((madeCells #[.int .i64 0] n).setIfInBounds 0 (.int .i64 1)).getD j undef = .int .i64 (pluW j) := by
  have h := made_int n j hj
  have h' : (madeCells #[Value.int .i64 0] n).getD j undef = .int .i64 0 := h
  rw [Array.getD_eq_getD_getElem?] at h' ⊢
  rw [Array.getElem?_setIfInBounds]
  by_cases h0 : j = 0
  · subst h0
    rw [if_pos rfl, size_madeCells, if_pos hj]; rfl
  · rw [if_neg (by omega), h']
    simp [pluW, h0]

set_option maxRecDepth 100000 in
set_option maxHeartbeats 1000000 in
theorem plu_spec (w : World) (n : Nat) (n1 : 1 ≤ n) (n2 : n ≤ 5) :
    Calls Try.prog 88 #[.int .i64 n] w fun e w' => ∃ v, e = .returned v ∧ WrI w' w.heap.size v (rowL n pluW) ∧ Ext w w' := by
  have hin : inR (n : Int) 1 5 = true := inR_iff.2 (by omega)
  obtain ⟨i0, hi, hz0, hz1, hz2⟩ := info_parts info_int
  have hmk := fun W => run_make_rowN (P := Try.prog) 50 3 i0 _ Try.underlying50 hi hz0 .i64 .i64 n n (Nat.le_refl _) (by rw [hz2]; omega) (by omega) W
  rw [hz1, Nat.mul_one] at hmk
  have i1 : 0 < n := n1
  have m0 : (madeCells #[.int .i64 0] n)[0]? = some (.int .i64 0) := by
    have h := toList_madeCells_one (.int .i64 0) n
    have h2 : (madeCells #[Value.int .i64 0] n).toList[0]? = some (.int .i64 0) := by rw [h]; simp [i1]
    rw [Array.getElem?_toList] at h2
    exact h2
  go_enter Try.func88, Try.ntmps88
  go_wp2_with (go_at_call 55; refine (in_spec _ _ _ _).mono ?_; rintro e w1 ⟨rfl, hw1⟩)
  go_ret
  have hB := BlkF.new w1 ((madeCells #[.int .i64 0] n).setIfInBounds 0 (.int .i64 1)) 3
  rw [Array.size_setIfInBounds, size_madeCells] at hB
  refine ⟨_, rfl, hB.wrI (rowL_len _ _) (fun j x hx => ?_) hw1.size (Nat.le_refl _), hw1.trans (Ext.new _ _)⟩
  obtain ⟨hj, rfl⟩ := rowL_val hx
  exact set0_at hj

set_option maxRecDepth 100000 in
set_option maxHeartbeats 1000000 in
theorem wOk_spec (w : World) (a : Option Addr) (c n : Nat) (f : Nat → Int) (hR : RdI w a (rowL n f)) (n1 : 1 ≤ n) (n2 : n ≤ 5) (hf : GoodW f) :
    Calls Try.prog 166 #[.int .i64 n, .slice a n c] w fun e w' => e = .returned (.bool true) ∧ Ext w w' := by
  have HF := hide hf
  have hin : inR (n : Int) 1 5 = true := inR_iff.2 (by omega)
  clear hf
  go_enter Try.func166, Try.ntmps166
  go_wp2_with (go_at_call 55; refine (in_spec _ _ _ _).mono ?_; rintro e w1 ⟨rfl, hw1⟩)
  obtain ⟨W0, rfl⟩ : ∃ W0 : World, W0 = w1 := ⟨_, rfl⟩
  go_loopw [5, 6, 18] (fun _ _ i wr => ∃ k : Nat, k ≤ n ∧ i = .int .i64 k ∧ Ext w wr) (fun _ _ i _ => n - (intOf i).toNat)
  case atStart => exact ⟨0, Nat.zero_le _, rfl, hw1⟩
  case round =>
    obtain ⟨k, hk, rfl, hwr⟩ := hrel
    by_cases hlt : k < n
    · obtain ⟨b, off, rfl, c0⟩ := (hR.ext hwr).at_ (rowL_at (f := f) hlt)
      have e1 := HF.out.1 k
      have hin2 : inR (f k) 0 100 = true := inR_iff.2 e1
      by_cases h0 : k = 0
      · subst h0
        rw [Nat.add_zero] at c0
        go_wp2_with (go_at_call 55; refine (in_spec _ _ _ _).mono ?_; rintro e w1 ⟨rfl, hw1⟩; have c0 := Ext.keep (w' := w1) (by repeat (first | exact Ext.refl _ | assumption | refine Ext.alloc ?_ _ | refine Ext.drew ?_ | refine Ext.trans ?_ (by assumption))) c0)
        exact ⟨⟨1, by omega, by go_num, hwr.trans hw1⟩, by simp [intOf]; omega⟩
      · obtain ⟨m, hm⟩ : ∃ m : Nat, k = m + 1 := ⟨k - 1, by omega⟩
        subst hm
        obtain ⟨b2, off2, hb, c1⟩ := (hR.ext hwr).at_ (rowL_at (f := f) (show m < n by omega))
        injection hb with hb
        injection hb with hb hb2
        subst hb
        subst hb2
        have e3 : ¬ (f m < f (m + 1)) := by have := HF.out.2 m; omega
        have y1 : wrap64 ((m : Int) + 1 - 1) = m := by rw [IntWalk.wrap64_in _ (by omega)]; omega
        have i1 : (m : Int) + 1 < (n : Int) := by omega
        have i2 : (0 : Int) ≤ (m : Int) + 1 := by omega
        have i3 : ((m : Int) + 1).toNat = m + 1 := by omega
        have i4 : m < n := by omega
        have i5 : (0 : Int) < (m : Int) + 1 := by omega
        go_wp2_with (go_at_call 55; refine (in_spec _ _ _ _).mono ?_; rintro e w1 ⟨rfl, hw1⟩; have c0 := Ext.keep (w' := w1) (by repeat (first | exact Ext.refl _ | assumption | refine Ext.alloc ?_ _ | refine Ext.drew ?_ | refine Ext.trans ?_ (by assumption))) c0; have c1 := Ext.keep (w' := w1) (by repeat (first | exact Ext.refl _ | assumption | refine Ext.alloc ?_ _ | refine Ext.drew ?_ | refine Ext.trans ?_ (by assumption))) c1)
        exact ⟨⟨m + 2, by omega, by go_num, hwr.trans hw1⟩, by simp [intOf]; omega⟩
    · go_wp2
      go_ret
      exact ⟨rfl, hwr⟩

set_option maxRecDepth 100000 in
set_option maxHeartbeats 1000000 in
theorem l05Ok_spec (w : World) (sz : Int) (a aw : Option Addr) (c cw : Nat) (vs : List Vt) (f : Nat → Int) (n : Nat) (hz : sz = n) (hR : RdV w a vs) (hW : RdI w aw (rowL n f)) (hf : GoodW f) (h0 : profOk sz vs = true) :
    Calls Try.prog 142 #[.agg #[.int .i64 sz, .slice a vs.length c], .slice aw n cw] w fun e w' => e = .returned (.bool true) ∧ Ext w w' := by
  subst hz
  obtain ⟨m, hm, n1, n2⟩ := prof_nat h0
  have hnm : n = m := by omega
  rw [← hnm] at n1 n2
  clear hm hnm m
  have HF := hide hf
  clear hf
  have q0 := new0 w (.int .i64 n) [.slice a vs.length c] 43
  have q1 := new1 w (.int .i64 n) (.slice a vs.length c) [] 43
  go_enter Try.func142, Try.ntmps142
  go_wp2_with (first | (go_at_call 64; refine (prof_spec _ _ _ _ _ (hR.ext (by repeat (first | exact Ext.refl _ | assumption | refine Ext.alloc ?_ _ | refine Ext.drew ?_ | refine Ext.trans ?_ (by assumption))))).mono ?_; rintro e w1 ⟨rfl, hw1⟩; have q0 := Ext.keep (w' := w1) (by repeat (first | exact Ext.refl _ | assumption | refine Ext.alloc ?_ _ | refine Ext.drew ?_ | refine Ext.trans ?_ (by assumption))) q0; have q1 := Ext.keep (w' := w1) (by repeat (first | exact Ext.refl _ | assumption | refine Ext.alloc ?_ _ | refine Ext.drew ?_ | refine Ext.trans ?_ (by assumption))) q1) | (go_at_call 166; refine (wOk_spec _ aw cw n f (hW.ext (by repeat (first | exact Ext.refl _ | assumption | refine Ext.alloc ?_ _ | refine Ext.drew ?_ | refine Ext.trans ?_ (by assumption)))) n1 n2 HF.out).mono ?_; rintro e w1 ⟨rfl, hw1⟩; have q0 := Ext.keep (w' := w1) (by repeat (first | exact Ext.refl _ | assumption | refine Ext.alloc ?_ _ | refine Ext.drew ?_ | refine Ext.trans ?_ (by assumption))) q0; have q1 := Ext.keep (w' := w1) (by repeat (first | exact Ext.refl _ | assumption | refine Ext.alloc ?_ _ | refine Ext.drew ?_ | refine Ext.trans ?_ (by assumption))) q1))
  go_ret
  exact ⟨rfl, (by repeat (first | exact Ext.refl _ | assumption | refine Ext.alloc ?_ _ | refine Ext.drew ?_ | refine Ext.trans ?_ (by assumption)))⟩

set_option maxRecDepth 100000 in
set_option maxHeartbeats 4000000 in
theorem sco_spec (w : World) (sz : Int) (a aw : Option Addr) (c cw : Nat) (vs : List Vt) (f : Nat → Int) (n : Nat) (hz : sz = n) (hR : RdV w a vs) (hW : RdI w aw (rowL n f)) (hf : GoodW f) (h0 : profOk sz vs = true) :
    Calls Try.prog 143 #[.agg #[.int .i64 sz, .slice a vs.length c], .slice aw n cw] w fun e w' => ∃ v, e = .returned v ∧ WrI w' w.heap.size v (rowL n (scoV f vs)) ∧ Ext w w' := by
  subst hz
  obtain ⟨m, hm, n1, n2⟩ := prof_nat h0
  have hnm : n = m := by omega
  rw [← hnm] at n1 n2
  clear hm hnm m
  have HS := hide (prof_small h0)
  have HF := hide hf
  clear hf
  have hvl := (prof_small h0).1
  have q0 := new0 w (.int .i64 n) [.slice a vs.length c] 43
  have q1 := new1 w (.int .i64 n) (.slice a vs.length c) [] 43
  obtain ⟨i0, hi, hz0, hz1, hz2⟩ := info_parts info_int
  have hmk := fun W => run_make_rowN (P := Try.prog) 50 3 i0 _ Try.underlying50 hi hz0 .i64 .i64 n n (Nat.le_refl _) (by rw [hz2]; omega) (by omega) W
  rw [hz1, Nat.mul_one] at hmk
  go_enter Try.func143, Try.ntmps143
  go_wp2_with fail
  clear hmk
  have hw : Ext w (w.alloc (.cells #[.int .i64 n, .slice a vs.length c] 43)) := Ext.new _ _
  have hsz : (w.alloc (.cells #[.int .i64 n, .slice a vs.length c] 43)).heap.size = w.heap.size + 1 := by simp
  generalize w.alloc (.cells #[.int .i64 n, .slice a vs.length c] 43) = w1 at hw hsz q0 q1 ⊢
  rw [← hsz]
  clear hsz
  have hR0 := hR.ext hw
  have hW0 := hW.ext hw
  have hB := BlkF.new w1 (madeCells #[.int .i64 0] n) 3
  rw [size_madeCells] at hB
  have hB := hB.congr (f' := fun o => .int .i64 (scoV f (vs.take 0) o)) (fun o ho => by rw [show scoV f (vs.take 0) o = 0 by simp [scoV]]; exact made_int n o ho)
  have h20 := Ext.new w1 (.cells (madeCells #[.int .i64 0] n) 3)
  obtain ⟨wb, hwb⟩ : ∃ wb : World, wb = w1 := ⟨_, rfl⟩
  subst hwb
  have q0 := h20.keep q0
  have q1 := h20.keep q1
  generalize wb.alloc (.cells (madeCells #[.int .i64 0] n) 3) = W0 at hB h20 q0 q1 ⊢
  go_wp2_with fail
  go_loopw [7, 8, 9, 16, 21, 22, 23] (fun _ _ _ i _ _ _ wr => ∃ k : Nat, k ≤ vs.length ∧ i = .int .i64 k ∧ BlkF wr wb.heap.size n (fun o => .int .i64 (scoV f (vs.take k) o)) ∧ Ext wb wr) (fun _ _ _ i _ _ _ _ => vs.length - (intOf i).toNat)
  case atStart => exact ⟨0, Nat.zero_le _, rfl, hB, h20⟩
  case round =>
    clear hB h20
    obtain ⟨k, hk, rfl, hB, hwr⟩ := hrel
    by_cases hlt : k < vs.length
    · obtain ⟨x, hx⟩ := at_of_lt hlt
      obtain ⟨b, off, a', c', rfl, c0, c1, hc', hRx⟩ := hR0.at_ hx
      have c0 := hwr.keep c0
      have c1 := hwr.keep c1
      have hgl := hB.lt
      obtain ⟨x0, x1, x2⟩ := HS.out.2 x (List.mem_of_getElem? hx)
      have hxl := (rk_len x0).1
      have HX0 := hide x0
      have HX := hide hx
      clear hx x0
      have e0 := new0 wr (.slice a' x.1.length c') [.int .i64 x.2] 131
      have e1 := new1 wr (.slice a' x.1.length c') (.int .i64 x.2) [] 131
      have hlen : x.1.length = n := by omega
      rw [hlen] at c0 e0 e1 hc'
      clear hxl hlen
      have hBx := hB.ext (Ext.new wr (.cells #[.slice a' n c', .int .i64 x.2] 131))
      clear hB
      have hB := hBx.congr (f' := fun o => .int .i64 (scoT f vs k x 0 o)) (fun o ho => by
        obtain ⟨p, _, hpl, _⟩ := place_at HX0.out ho
        unfold scoT
        rw [hpl, if_neg (by omega)]; simp)
      clear hBx
      have hE := Ext.new wr (.cells #[.slice a' n c', .int .i64 x.2] 131)
      have c1' := HX.out
      go_wp2_with fail
      clear c0 c1 c1'
      generalize wr.alloc (.cells #[.slice a' n c', .int .i64 x.2] 131) = W1 at hB hE e0 e1 ⊢
      have hwr := hwr.trans hE
      clear hE
      go_loopw [8, 9, 23] (fun _ _ i w2 => ∃ m : Nat, m ≤ n ∧ i = .int .i64 m ∧ BlkF w2 wb.heap.size n (fun o => .int .i64 (scoT f vs k x m o)) ∧ Ext wb w2 ∧ w2.cell? ⟨wr.heap.size, 1, none⟩ = some (.int .i64 x.2)) (fun _ _ i _ => n - (intOf i).toNat)
      case atStart => exact ⟨0, Nat.zero_le _, rfl, hB, hwr, e1⟩
      case round =>
        clear hB hwr e1 e0
        obtain ⟨m, hm, rfl, hB, hwr2, e1⟩ := hrel
        by_cases hmt : m < n
        · obtain ⟨y, hy⟩ := at_of_lt (xs := x.1) (k := m) (by have := (rk_len HX0.out).1; omega)
          have hym := rk_mem HX0.out (List.mem_of_getElem? hy)
          obtain ⟨o, rfl⟩ : ∃ o : Nat, y = o := ⟨y.toNat, by omega⟩
          have ho : o < n := by omega
          obtain ⟨p, hp, hpl, hpa, hpu⟩ := place_at HX0.out ho
          have hpm : p = m := (hpu m hy).symm
          rw [hpm] at hpl hpa
          have hoth : ∀ o', o' < n → o' ≠ o → scoT f vs k x (m + 1) o' = scoT f vs k x m o' := fun o' ho' hne => by
            obtain ⟨p', _, hpl', hpa', _⟩ := place_at HX0.out ho'
            have hne2 : p' ≠ m := fun e => by rw [e, hy] at hpa'; injection hpa' with h; omega
            unfold scoT
            rw [hpl']
            by_cases h1 : p' < m
            · rw [if_pos (by omega), if_pos (by omega)]
            · rw [if_neg (by omega), if_neg (by omega)]
          have hat : scoT f vs k x m o = scoV f (vs.take k) o := by unfold scoT; rw [hpl, if_neg (by omega)]; simp
          have hnx : scoT f vs k x (m + 1) o = scoV f (vs.take k) o + x.2 * f m := by unfold scoT; rw [hpl, if_pos (by omega)]; simp
          obtain ⟨b2, off2, rfl, d2⟩ := (hRx.ext hwr2).at_ hy
          obtain ⟨b3, off3, rfl, d3⟩ := (hW0.ext hwr2).at_ (rowL_at (f := f) hmt)
          have d4 := hB.cell o ho
          rw [hat] at d4
          have z4 := hB.fr o
          obtain ⟨s1, s2⟩ := scoV_bd HS.out HF.out o k hk
          obtain ⟨s3, s4⟩ := wf_bd HF.out x1 x2 m
          have y1 : wrap64 (x.2 * f m) = x.2 * f m := IntWalk.wrap64_in _ (by omega)
          have y2 : IntKind.i64.wrap (x.2 * f m) = x.2 * f m := IntWalk.i64_in _ (by omega)
          have y3 : wrap64 (scoV f (vs.take k) o + x.2 * f m) = scoT f vs k x (m + 1) o := by rw [IntWalk.wrap64_in _ (by omega), hnx]
          have y4 : IntKind.i64.wrap (scoV f (vs.take k) o + x.2 * f m) = scoT f vs k x (m + 1) o := by rw [IntWalk.i64_left]; exact y3
          have HO := hide hoth
          have HB := hide hB
          clear hoth hB hat hnx hpl hpa hpu hpm s1 s2 s3 s4 hy hym
          go_wp2
          refine wp_region_X (by kernel_rfl) (by kernel_rfl) ?_
          repeat' (refine wpX_stepQ (fun K hK => ?_)
                   go_simp
                   try (rw [if_neg (by intro h; simp [undef] at h)])
                   try split
                   all_goals
                     first
                     | (refine hK _ ?_
                        clear hK K)
                     | (apply Exists.intro
                        refine ⟨fun wq hwq => ?_, hK _ ?_⟩
                        · have hcq := hwq.cellS
                          go_simp
                          first
                          | exact ⟨Ext.refl _, rfl⟩
                        clear hK K))
          refine wpX_stepL rfl (by kernel_rfl) (by kernel_rfl) (by kernel_rfl) (fun K hK wz hwz => ?_)
          have hcz := hwz.cellS
          have hfz := hwz.frozenS
          go_simp
          refine hK _ _ ?_
          clear hK K
          go_wp2
          refine ⟨⟨m + 1, by omega, by go_num, ((HB.out.ext hwz).set o ho _).congr (fun o' ho' => ?_), Ext.setCell (hwr2.trans hwz) (Nat.le_refl _) _, ?_⟩, by simp [intOf]; omega⟩
          · by_cases e : o' = o
            · subst e; rw [if_pos rfl]
            · rw [if_neg e, HO.out o' ho' e]
          · rw [World.cell?_setCell_other _ _ _ _ (by simp only [ne_eq, Addr.mk.injEq, not_and]; omega)]
            exact hwz.keep e1
        · have hmn : m = n := by omega
          go_wp2
          refine ⟨⟨k + 1, by omega, by go_num, hB.congr (fun o ho => ?_), hwr2⟩, by simp [intOf]; omega⟩
          obtain ⟨p, hp, hpl, _⟩ := place_at HX0.out ho
          rw [scoV_at HX.out, hmn]
          unfold scoT
          rw [hpl, if_pos (by omega)]
    · have hkl : k = vs.length := by omega
      go_wp2
      go_ret
      refine ⟨_, rfl, hB.wrI (rowL_len _ _) (fun j x hx => ?_) hw.size (Nat.le_refl _), hw.trans hwr⟩
      obtain ⟨hj, rfl⟩ := rowL_val hx
      rw [hkl, List.take_length]

end Go.Proofs.Ytagepfgncbgncaa
