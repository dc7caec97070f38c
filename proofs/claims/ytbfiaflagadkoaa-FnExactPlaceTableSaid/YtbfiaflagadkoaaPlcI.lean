/- The table of places, the program's side . -/
import Derived.Test.YtbfiaflagadkoaaPlc
import Derived.Test.YtbfiaflagadkoaaRegL
namespace Go.Proofs.Ytbfiaflagadkoaa
open Go.RowKit

set_option maxRecDepth 100000 in
set_option maxHeartbeats 1000000 in
theorem plcOne (w : World) (g1 g2 n i m : Nat) (a : Option Addr) (c : Nat) (xs : List Int) (h1 : w.cell? ⟨g1, 0, none⟩ = some (.int .i64 m)) (h2 : w.cell? ⟨g2, 0, none⟩ = some (.int .i64 i)) (hR : RdI w a xs) (hx : rkOk n xs = true) (hm : m < n) :
    Calls Try.prog 95 #[.slice a xs.length c, .pointer (some ⟨g1, 0, none⟩), .pointer (some ⟨g2, 0, none⟩)] w fun e w' => e = .returned (.bool (plcP i m xs)) ∧ Ext w w' := by
  obtain ⟨l1, l2⟩ := rk_len hx
  obtain ⟨x, hxm⟩ := at_of_lt (xs := xs) (k := m) (by omega)
  obtain ⟨b, off, rfl, c0⟩ := hR.at_ hxm
  have HX := hide hxm
  have hlt : m < xs.length := by omega
  clear hx hxm l1
  go_enter Try.func95, Try.ntmps95
  go_wp2
  refine wp_region_X (by kernel_rfl) (by kernel_rfl) ?_
  repeat' (refine wpX_stepQ (fun K hK => ?_)
           go_simp
           try (rw [if_neg (by intro h; simp [undef] at h)])
           try split
           all_goals
             first
             | (refine hK _ ?_
                clear hK K)
             | (apply Exists.intro
                refine ⟨fun wq hwq => ?_, hK _ ?_⟩
                · have hcq := hwq.cellS
                  go_simp
                  first
                  | exact ⟨Ext.refl _, rfl⟩
                clear hK K))
  refine wpX_nil (fun wz hwz => ?_)
  go_wp2
  go_ret
  exact ⟨ret_bool (by simp [plcP, HX.out]), (by repeat (first | exact Ext.refl _ | assumption | refine Ext.alloc ?_ _ | refine Ext.drew ?_ | refine Ext.trans ?_ (by assumption)))⟩

set_option maxRecDepth 100000 in
set_option maxHeartbeats 4000000 in
theorem plc_impl (w : World) (sz : Int) (a : Option Addr) (c : Nat) (vs : List Vt) (hR : RdV w a vs) :
    Calls Try.prog 42 #[.agg #[.int .i64 sz, .slice a vs.length c]] w fun e w' => ∃ v, e = .returned v ∧ WrSS w' w.heap.size v (plcO sz vs) ∧ Ext w w' := by
  have q0 := new0 w (.int .i64 sz) [.slice a vs.length c] 30
  have q1 := new1 w (.int .i64 sz) (.slice a vs.length c) [] 30
  cases h0 : profOk sz vs
  · go_enter Try.func42, Try.ntmps42
    go_wp2_with (go_at_call 70; refine (prof_impl _ _ _ _ _ (hR.ext (by repeat (first | exact Ext.refl _ | assumption | refine Ext.alloc ?_ _ | refine Ext.drew ?_ | refine Ext.trans ?_ (by assumption))))).mono ?_; rintro e w1 ⟨rfl, hw1⟩; have q0 := Ext.keep (w' := w1) (by repeat (first | exact Ext.refl _ | assumption | refine Ext.alloc ?_ _ | refine Ext.drew ?_ | refine Ext.trans ?_ (by assumption))) q0; have q1 := Ext.keep (w' := w1) (by repeat (first | exact Ext.refl _ | assumption | refine Ext.alloc ?_ _ | refine Ext.drew ?_ | refine Ext.trans ?_ (by assumption))) q1)
    go_ret
    exact ⟨_, rfl, by simp [plcO, h0]; exact WrSS.nil _ _ _ _, (by repeat (first | exact Ext.refl _ | assumption | refine Ext.alloc ?_ _ | refine Ext.drew ?_ | refine Ext.trans ?_ (by assumption)))⟩
  obtain ⟨n, rfl, n1, n2⟩ := prof_nat h0
  have HS := hide (prof_small h0)
  obtain ⟨i0, hi, hz0, hz1, hz2⟩ := info_parts info_row
  have hmk := fun W => run_make_rowN (P := Try.prog) 37 26 i0 _ Try.underlying37 hi hz0 .i64 .i64 n n (Nat.le_refl _) (by rw [hz2]; omega) (by omega) W
  rw [hz1, Nat.mul_one] at hmk
  go_enter Try.func42, Try.ntmps42
  go_wp2_with (go_at_call 70; refine (prof_impl _ _ _ _ _ (hR.ext (by repeat (first | exact Ext.refl _ | assumption | refine Ext.alloc ?_ _ | refine Ext.drew ?_ | refine Ext.trans ?_ (by assumption))))).mono ?_; rintro e w1 ⟨rfl, hw1⟩; have q0 := Ext.keep (w' := w1) (by repeat (first | exact Ext.refl _ | assumption | refine Ext.alloc ?_ _ | refine Ext.drew ?_ | refine Ext.trans ?_ (by assumption))) q0; have q1 := Ext.keep (w' := w1) (by repeat (first | exact Ext.refl _ | assumption | refine Ext.alloc ?_ _ | refine Ext.drew ?_ | refine Ext.trans ?_ (by assumption))) q1)
  clear hmk
  have hw : Ext w w1 := (by repeat (first | exact Ext.refl _ | assumption | refine Ext.alloc ?_ _ | refine Ext.drew ?_ | refine Ext.trans ?_ (by assumption)))
  have hR0 := hR.ext hw
  have hM := Mat.made w1 n
  have h20 := Ext.new w1 (.cells (madeCells #[.slice none 0 0] n) 26)
  generalize w1.alloc (.cells (madeCells #[.slice none 0 0] n) 26) = W0 at hM h20 ⊢
  obtain ⟨wb, hwb⟩ : ∃ wb : World, wb = w1 := ⟨_, rfl⟩
  subst hwb
  go_loopw [4, 5, 14, 18, 19] (fun _ _ i _ _ wr => ∃ (k : Nat) (us : Nat → Value), k ≤ n ∧ i = .int .i64 k ∧ Hid (Mat wr wb.heap.size wb.heap.size n us (rowsT n (plcV vs) k 0) ∧ ∀ o, k ≤ o → us o = .slice none 0 0) ∧ Ext wb wr) (fun _ _ i _ _ _ => n - (intOf i).toNat)
  case atStart => exact ⟨0, _, Nat.zero_le _, rfl, ⟨hM.congr (fun o _ => (rowsT_zero n _ o).symm), fun _ _ => rfl⟩, h20⟩
  case round =>
    clear hM h20
    obtain ⟨i, us, hi, rfl, hMM, hwr⟩ := hrel
    have r0 := hwr.keep q0
    by_cases hit : i < n
    · go_wp2
      have p0 := new0 wr (.int .i64 (i : Int)) [] 3
      obtain ⟨gi, hgi⟩ : ∃ gi : Nat, gi = wr.heap.size := ⟨_, rfl⟩
      rw [← hgi] at p0 ⊢
      have hge : wb.heap.size < gi := by rw [hgi]; exact hMM.out.1.outer.lt
      have hMN := hide (And.intro (hMM.out.1.ext (Ext.new wr (.cells #[.int .i64 (i : Int)] 3))) hMM.out.2)
      have hwr := hwr.trans (Ext.new wr (.cells #[.int .i64 (i : Int)] 3))
      clear hMM hgi r0
      generalize wr.alloc (.cells #[.int .i64 (i : Int)] 3) = W1 at p0 hMN hwr ⊢
      have hK := hide (hMN.out.1.begin (hMN.out.2 i (Nat.le_refl _)) (rowsT_begin n (plcV vs) i))
      have hU := hide (fun o (ho : i < o) => hMN.out.2 o (Nat.le_of_lt ho))
      have hgl : gi < W1.heap.size := World.block_lt_of_cell? W1 _ p0
      obtain ⟨H, hH⟩ : ∃ H : Nat, H = W1.heap.size := ⟨_, rfl⟩
      rw [← hH] at hK hgl
      clear hMN hH
      go_loopw [5, 19] (fun _ m wr => ∃ (k : Nat) (us : Nat → Value), k ≤ n ∧ m = .int .i64 k ∧ Hid (MatK wr wb.heap.size H wb.heap.size n i us (rowsT n (plcV vs) i k)) ∧ Hid (∀ o, i < o → us o = .slice none 0 0) ∧ Ext wb wr ∧ wr.cell? ⟨gi, 0, none⟩ = some (.int .i64 (i : Int))) (fun _ m _ => n - (intOf m).toNat)
      case atStart => exact ⟨0, us, Nat.zero_le _, rfl, hK, hU, hwr, p0⟩
      case round =>
        clear hK hU hwr p0
        obtain ⟨m, us, hm, rfl, hK, hU, hwr, p0⟩ := hrel
        have r0 := hwr.keep q0
        have r1 := hwr.keep q1
        by_cases hlt : m < n
        · have d0 := hK.out.mat.outer.cell i hit
          have hRr := hR0.ext hwr
          have hrl := rowL_len m (plcV vs i)
          have HV := hide (fun (w' : World) (hw' : Ext (wr.alloc (.cells #[.int .i64 (m : Int)] 3)) w') =>
            votersV 95 #[] #[.pointer (some ⟨wr.heap.size, 0, none⟩), .pointer (some ⟨gi, 0, none⟩)] (plcP i m) w' n a c vs (hRr.ext ((Ext.new wr _).trans hw')) HS.out Try.call95
              (fun x a' c' w2 hx hw2 hRx _ => plcOne w2 wr.heap.size gi n i m a' c' x.1 (hw2.keep (hw'.keep (new0 wr _ _ _))) (hw2.keep (((Ext.new wr _).trans hw').keep p0)) hRx (HS.out.2 x hx).1 hlt))
          go_wp2
          have e0 := new0 wr (.int .i64 (m : Int)) [] 3
          refine wp_region_L (H := H) (late := [1]) (by kernel_rfl) (by kernel_rfl) ?_
          repeat' (refine wpL_stepQ rfl (fun K hK => ?_)
                   go_simp
                   try (rw [if_neg (by intro h; simp [undef] at h)])
                   try split
                   all_goals
                     first
                     | (refine hK _ ?_
                        clear hK K)
                     | (apply Exists.intro
                        refine ⟨fun wq hwq => ?_, hK _ ?_⟩
                        · have hcq := hwq.cellS
                          go_simp
                          first
                          | exact ⟨Ext.refl _, rfl⟩
                        clear hK K))
          refine wpL_stepQL (.int .i64 (i : Int)) rfl (fun wq hwq => ?_) (fun K hK0 => ?_)
          · have hcq := hwq.keep (p := ⟨gi, 0, none⟩) hgl (((Ext.new wr _)).keep p0)
            go_simp
            exact ⟨Ext.refl _, rfl⟩
          refine hK0 _ ?_
          clear hK0 K
          repeat' (refine wpL_stepQ rfl (fun K hK => ?_)
                   go_simp
                   try (rw [if_neg (by intro h; simp [undef] at h)])
                   try split
                   all_goals
                     first
                     | (refine hK _ ?_
                        clear hK K)
                     | (apply Exists.intro
                        refine ⟨fun wq hwq => ?_, hK _ ?_⟩
                        · have hcq := hwq.cellS
                          go_simp
                          first
                          | exact ⟨Ext.refl _, rfl⟩
                          | exact ⟨Ext.refl _, HV.out _ (by repeat (first | exact Ext.refl _ | assumption | refine Ext.alloc ?_ _ | refine Ext.drew ?_ | refine Ext.trans ?_ (by assumption)))⟩
                        clear hK K))
          refine wpL_stepS rfl (by kernel_rfl) (fun K hK wq hwq => ?_)
          go_simp
          refine ⟨(by repeat (first | exact Ext.refl _ | assumption | refine Ext.alloc ?_ _ | refine Ext.drew ?_ | refine Ext.trans ?_ (by assumption))), hK _ _ ?_⟩
          clear hK K
          refine wpL_stepC rfl (by kernel_rfl) (fun K hK' wa hwa => ?_)
          refine Eq.mpr (if_pos rfl) ?_
          have hKa := hK.out.ext (show Ext wr wa from (by repeat (first | exact Ext.refl _ | assumption | refine Ext.alloc ?_ _ | refine Ext.drew ?_ | refine Ext.trans ?_ (by assumption))))
          have hcur := hKa.cur
          rw [rowsT_at] at hcur
          refine oper_appB (K := fun w' a' => Low H wa w' ∧ K w' a') H wa rfl _ _ rfl _ (rowL m (plcV vs i)) _ _ rfl hcur hKa.size rfl (hwa.keep (new0 wq _ _ _)) (by omega) ?_
          intro v' w3 hown3 hg3
          obtain ⟨av, nv, cv, rfl⟩ := hown3.form
          have hg0 : w3.heap[wb.heap.size]? = wa.heap[wb.heap.size]? := hg3.block _ hKa.mat.outer.lt (fun e => hKa.mat.far i hit e.symm)
          have z0 := (World.cell?_of_block (a := ⟨wb.heap.size, i, none⟩) hg0).trans (hKa.mat.outer.cell i hit)
          have z1 := (World.frozen?_of_block (a := ⟨wb.heap.size, i, none⟩) hg0).trans (hKa.mat.outer.fr i)
          have hE3 : Ext wb w3 := Ext.grown (show Ext wb wa from (by repeat (first | exact Ext.refl _ | assumption | refine Ext.alloc ?_ _ | refine Ext.drew ?_ | refine Ext.trans ?_ (by assumption)))) hg3 (ownsRow_block (hKa.mat.row i hit))
          have p3 : w3.cell? ⟨gi, 0, none⟩ = some (.int .i64 (i : Int)) := hg3.cell ((show Ext wr wa from (by repeat (first | exact Ext.refl _ | assumption | refine Ext.alloc ?_ _ | refine Ext.drew ?_ | refine Ext.trans ?_ (by assumption)))).keep p0) (fun e => by have := ownsRow_block hKa.cur gi e.symm; omega)
          have hlow : Low H wa w3 := ⟨hg3.size, fun k hk hl => hg3.block k hl (fun e => by have := ownsRow_block hKa.cur k e.symm; omega)⟩
          clear hg0
          have HKA := hide hKa
          clear hKa
          refine ⟨hlow, hK' _ _ ?_⟩
          clear hK' K hlow
          repeat' (refine wpL_stepQ rfl (fun K hK => ?_)
                   go_simp
                   try (rw [if_neg (by intro h; simp [undef] at h)])
                   try split
                   all_goals
                     first
                     | (refine hK _ ?_
                        clear hK K)
                     | (apply Exists.intro
                        refine ⟨fun wq hwq => ?_, hK _ ?_⟩
                        · have hcq := hwq.cellS
                          go_simp
                          first
                          | exact ⟨Ext.refl _, rfl⟩
                        clear hK K))
          refine wpL_stepL rfl (by kernel_rfl) (by kernel_rfl) (by kernel_rfl) (fun K hK wz hwz => ?_)
          have hcz := hwz.cellS
          have hfz := hwz.frozenS
          go_simp
          refine hK _ _ ?_
          clear hK K
          go_wp2
          have hN := HKA.out.app hit hown3 hg3 hwz
          have hrows : (fun o => if o = i then rowL m (plcV vs i) ++ [sumV (plcP i m) vs] else rowsT n (plcV vs) i m o) = rowsT n (plcV vs) i (m + 1) := by
            funext o
            by_cases e : o = i
            · subst e; rw [if_pos rfl, rowsT_at, rowL_succ]; rfl
            · rw [if_neg e, rowsT_far n _ i m (m + 1) e]
          refine ⟨⟨m + 1, _, by omega, by go_num, by rw [← hrows]; exact hN, fun o ho => ?_, Ext.setCell (hE3.trans hwz) (Nat.le_refl _) _, ?_⟩, by simp [intOf]; omega⟩
          · show (if o = i then _ else us o) = _
            rw [if_neg (by omega)]; exact hU.out o ho
          · rw [World.cell?_setCell_other _ _ _ _ (by simp only [ne_eq, Addr.mk.injEq, not_and]; omega)]
            exact hwz.keep p3
        · have hmn : m = n := by omega
          go_wp2
          refine ⟨⟨i + 1, us, by omega, by go_num, ⟨?_, fun o ho => hU.out o (by omega)⟩, hwr⟩, by simp [intOf]; omega⟩
          rw [hmn] at hK
          exact hK.out.mat.congr (fun o _ => rowsT_done n _ i o)
    · have hin : i = n := by omega
      go_wp2
      go_ret
      refine ⟨_, rfl, ?_, hw.trans hwr⟩
      have h1 := (hMM.out.1.congr (rows' := fun o => rowL n (plcV vs o)) (fun o ho => by rw [hin]; exact rowsT_all _ ho)).wr (Nat.le_refl n)
      have h2 := h1.base hw.size
      simpa [plcO, h0, tabL] using h2

end Go.Proofs.Ytbfiaflagadkoaa
