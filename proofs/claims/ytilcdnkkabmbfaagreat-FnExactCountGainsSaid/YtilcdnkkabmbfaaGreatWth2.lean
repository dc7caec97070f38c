/- A vote that is replaced: WithRanking of the program. -/
import Derived.Test.YtilcdnkkabmbfaaGreatBld
namespace Go.Proofs.YtilcdnkkabmbfaaGreat
open Go.RowKit

set_option maxRecDepth 100000 in
theorem map_same (vs : List Vt) : vs.map (fun x => ((fun r : List Int => r) x.1, x.2)) = vs := by simp

set_option maxRecDepth 100000 in
set_option maxHeartbeats 4000000 in
theorem withR_impl (w : World) (sz : Int) (a ar : Option Addr) (c cr k : Nat) (vs : List Vt) (r : List Int) (x : Vt) (hx : vs[k]? = some x) (hR : RdV w a vs) (hRr : RdI w ar r) (h0 : profOk sz vs = true) (hr : rkOk sz r = true) (hcr : r.length ≤ cr) :
    Calls Tryz.prog 60 #[.agg #[.int .i64 sz, .slice a vs.length c], .int .i64 k, .slice ar r.length cr] w fun e w' => ∃ a' c', e = .returned (.tuple #[.agg #[.int .i64 sz, .slice a' vs.length c'], .bool true]) ∧ RdV w' a' (vs.set k (r, x.2)) ∧ Ext w w' := by
  have hsz := prof_size h0
  have hvl := (prof_small h0).1
  have hk := lt_of_at hx
  have hrl := rk_len hr
  have H0 := hide h0
  have HR := hide hr
  have HX := hide hx
  have hin : inR (k : Int) 0 ((vs.length : Int) - 1) = true := inR_iff.2 (by omega)
  have q0 := new0 w (.int .i64 sz) [.slice a vs.length c] 29
  have q1 := new1 w (.int .i64 sz) (.slice a vs.length c) [] 29
  have hs0 : (w.alloc (.cells #[.int .i64 sz, .slice a vs.length c] 29)).heap.size = w.heap.size + 1 := by simp
  have p0 := BlkF.new (w.alloc (.cells #[.int .i64 sz, .slice a vs.length c] 29)) #[.int .i64 0, .slice none 0 0] 29
  rw [hs0] at p0
  have HW : Hid (wrap64 ((vs.length : Int) - 1) = (vs.length : Int) - 1) := IntWalk.wrap64_in _ (by omega)
  have HPO : Hid (∀ w', Ext w w' → Calls Tryz.prog 36 #[.agg #[.int .i64 sz, .slice a vs.length c]] w' fun e w'' => e = .returned (.bool true) ∧ Ext w' w'') := fun w' hw' => by
    have h := prof_impl w' sz a c vs (hR.ext hw')
    rw [h0] at h
    exact h
  have HRO : Hid (∀ w', Ext w w' → Calls Tryz.prog 80 #[.int .i64 sz, .slice ar r.length cr] w' fun e w'' => e = .returned (.bool true) ∧ Ext w' w'') := fun w' hw' => by
    have h := rank_impl w' sz ar cr r (hRr.ext hw') hcr
    rw [hr] at h
    exact h
  have HIN : Hid (∀ w', Calls Tryz.prog 63 #[.int .i64 k, .int .i64 0, .int .i64 ((vs.length : Int) - 1)] w' fun e w'' => e = .returned (.bool true) ∧ Ext w' w'') := fun w' => by
    have h := in_impl (k : Int) 0 ((vs.length : Int) - 1) w'
    rw [hin] at h
    exact h
  have HCL : Hid (∀ w', Ext w w' → Calls Tryz.prog 118 #[.slice ar r.length cr] w' fun e w'' => ∃ v, e = .returned v ∧ OwnI w'' w'.heap.size v r ∧ Ext w' w'') := fun w' hw' => cln_impl w' ar cr r (hRr.ext hw') (by omega)
  clear hx hr h0 hin hs0
  have y0 := HW.out
  go_enter Tryz.func60, Tryz.ntmps60
  go_wp2_with (first
    | (go_at_call 36; refine (HPO.out _ (by repeat (first | exact Ext.refl _ | assumption | refine Ext.alloc ?_ _ | refine Ext.drew ?_ | refine Ext.trans ?_ (by assumption)))).mono ?_; rintro e w1 ⟨rfl, hw1⟩; have q0 := Ext.keep (w' := w1) (by repeat (first | exact Ext.refl _ | assumption | refine Ext.alloc ?_ _ | refine Ext.drew ?_ | refine Ext.trans ?_ (by assumption))) q0; have q1 := Ext.keep (w' := w1) (by repeat (first | exact Ext.refl _ | assumption | refine Ext.alloc ?_ _ | refine Ext.drew ?_ | refine Ext.trans ?_ (by assumption))) q1)
    | (go_at_call 63; refine (HIN.out _).mono ?_; rintro e w1 ⟨rfl, hw1⟩; have q0 := Ext.keep (w' := w1) (by repeat (first | exact Ext.refl _ | assumption | refine Ext.alloc ?_ _ | refine Ext.drew ?_ | refine Ext.trans ?_ (by assumption))) q0; have q1 := Ext.keep (w' := w1) (by repeat (first | exact Ext.refl _ | assumption | refine Ext.alloc ?_ _ | refine Ext.drew ?_ | refine Ext.trans ?_ (by assumption))) q1)
    | (go_at_call 80; refine (HRO.out _ (by repeat (first | exact Ext.refl _ | assumption | refine Ext.alloc ?_ _ | refine Ext.drew ?_ | refine Ext.trans ?_ (by assumption)))).mono ?_; rintro e w1 ⟨rfl, hw1⟩; have q0 := Ext.keep (w' := w1) (by repeat (first | exact Ext.refl _ | assumption | refine Ext.alloc ?_ _ | refine Ext.drew ?_ | refine Ext.trans ?_ (by assumption))) q0; have q1 := Ext.keep (w' := w1) (by repeat (first | exact Ext.refl _ | assumption | refine Ext.alloc ?_ _ | refine Ext.drew ?_ | refine Ext.trans ?_ (by assumption))) q1))
  have p1 := p0.ext (w' := w1) (by repeat (first | exact Ext.refl _ | assumption | refine Ext.alloc ?_ _ | refine Ext.drew ?_ | refine Ext.trans ?_ (by assumption)))
  have hw : Ext w w1 := (by repeat (first | exact Ext.refl _ | assumption | refine Ext.alloc ?_ _ | refine Ext.drew ?_ | refine Ext.trans ?_ (by assumption)))
  clear y0 p0 hw1 HRO HIN HPO
  obtain ⟨wb, hwb⟩ : ∃ wb : World, wb = w1 := ⟨_, rfl⟩
  subst hwb
  refine (clone_impl _ sz a c vs (hR.ext hw) H0.out).mono ?_
  rintro e w2 ⟨v, es, rfl, hl, hm, hw2⟩
  rw [map_same] at hm
  have hel := vtsOf_len hm
  obtain ⟨g, c2, rfl, hc2, hg, hgl⟩ := hl.at0 (fun e => by rw [e] at hel; simp at hel; omega)
  obtain ⟨e, he, he1, he2⟩ := vtsOf_at hm HX.out
  rw [hel] at hc2 hl ⊢
  have hbe := hl.1.own
  rw [hel] at hbe
  have b0 := hbe.cell (k * 2) (by omega)
  have z0 := hbe.fr (k * 2)
  have p2 := p1.ext (hw2.trans (Ext.new w2 (.cells #[.int .i64 sz, .slice (some ⟨g, 0, none⟩) vs.length c2] 29)))
  have e0 := new0 w2 (.int .i64 sz) [.slice (some ⟨g, 0, none⟩) vs.length c2] 29
  have e1 := new1 w2 (.int .i64 sz) (.slice (some ⟨g, 0, none⟩) vs.length c2) [] 29
  have hE2 := Ext.new w2 (.cells #[.int .i64 sz, .slice (some ⟨g, 0, none⟩) vs.length c2] 29)
  have hbn := (hbe.ext hE2).cell (k * 2) (by omega)
  have hzn := (hbe.ext hE2).fr (k * 2)
  have HL := hide hl
  have HM := hide hm
  have HE := hide he
  have HE2 := hide he2
  have hwb1 : w.heap.size + 1 < wb.heap.size := p1.lt
  have hlt : w.heap.size + 1 < g := by omega
  obtain ⟨u0, hu0⟩ : ∃ u, u = (vtL es).getD (k * 2) undef := ⟨_, rfl⟩
  rw [← hu0] at hbn b0
  clear hl hm he he1 he2 hbe p1 hu0 hel b0 z0
  go_wp2
  refine wp_region_X (by kernel_rfl) (by kernel_rfl) ?_
  repeat' (refine wpX_stepQ (fun K hK => ?_)
           go_simp
           try (rw [if_neg (by intro h; simp [undef] at h)])
           try split
           all_goals
             first
             | (refine hK _ ?_
                clear hK K)
             | (apply Exists.intro
                refine ⟨fun wq hwq => ?_, hK _ ?_⟩
                · have hcq := hwq.cellS
                  go_simp
                  first
                  | exact ⟨Ext.refl _, rfl⟩
                clear hK K))
  refine wpX_stepS rfl (by kernel_rfl) (fun K hK wq hwq => ?_)
  go_simp
  refine (HCL.out _ (by repeat (first | exact Ext.refl _ | assumption | refine Ext.alloc ?_ _ | refine Ext.drew ?_ | refine Ext.trans ?_ (by assumption)))).mono ?_
  rintro e3 w3 ⟨u, rfl, hu, hw3⟩
  refine ⟨hw3, hK _ _ ?_⟩
  clear hK K
  obtain ⟨au, cu, rfl, hcu, _, hRu, hub⟩ := hu.val
  have hEq : Ext (w2.alloc (.cells #[.int .i64 sz, .slice (some ⟨g, 0, none⟩) vs.length c2] 29)) w3 := (by repeat (first | exact Ext.refl _ | assumption | refine Ext.alloc ?_ _ | refine Ext.drew ?_ | refine Ext.trans ?_ (by assumption)))
  have hgq : g < wq.heap.size := by
    have h1 := hwq.size
    simp at h1; omega
  have hbn := (hEq).keep hbn
  have e0 := hEq.keep e0
  have e1 := hEq.keep e1
  have hzn : w3.frozen? ⟨g, k * 2, none⟩ = false := (hEq.frozen (p := ⟨g, k * 2, none⟩) (by simp; omega)).trans hzn
  have p2 := p2.ext hEq
  have HUB : Hid (r ≠ [] → ∀ b off, au = some ⟨b, off, none⟩ → wb.heap.size ≤ b ∧ b ≠ g) := fun hne b off hab => by
    obtain ⟨g3, hg3, hb3, _⟩ := hub hne
    rw [hg3] at hab
    injection hab with hab
    injection hab with hab
    omega
  have HU := hide hRu
  have HL3 := hide (HL.out.ext (hE2.trans hEq))
  clear hub hu hRu hw3 hwq
  repeat' (refine wpX_stepQ (fun K hK => ?_)
           go_simp
           try (rw [if_neg (by intro h; simp [undef] at h)])
           try split
           all_goals
             first
             | (refine hK _ ?_
                clear hK K)
             | (apply Exists.intro
                refine ⟨fun wq hwq => ?_, hK _ ?_⟩
                · have hcq := hwq.cellS
                  go_simp
                  first
                  | exact ⟨Ext.refl _, rfl⟩
                clear hK K))
  refine wpX_stepC rfl (by kernel_rfl) (fun K hK' wz hwz => ?_)
  have hcz := hwz.cellS
  have hfz := hwz.frozenS
  go_simp
  refine hK' _ _ ?_
  clear hK' K
  obtain ⟨hset, hO⟩ := (HL3.out.ext hwz).setRd HE.out (HU.out.ext hwz) rfl hcu HUB.out
  rw [HM.out, HE2.out] at hset
  have hEz : Ext w3 wz := hwz
  have f0 := hO.keep (p := ⟨w2.heap.size, 0, none⟩) (by simp; omega) (hEz.keep e0)
  have f1 := hO.keep (p := ⟨w2.heap.size, 1, none⟩) (by simp; omega) (hEz.keep e1)
  have p3 := hO.blk (p2.ext hEz) (by omega)
  have hEw : Ext w (wz.setCell ⟨g, k * 2, none⟩ (.slice au r.length cu)) := Only.ext (hw.trans (hw2.trans (hE2.trans (hEq.trans hEz)))) hO (by omega)
  generalize wz.setCell ⟨g, k * 2, none⟩ (.slice au r.length cu) = w6 at hset hO f0 f1 p3 hEw ⊢
  clear hO
  refine wpX_nil (fun w5 hw5 => ?_)
  have hset := hset.ext hw5
  have f0 := hw5.keep f0
  have f1 := hw5.keep f1
  have p3 := p3.ext hw5
  have hEw := hEw.trans hw5
  have hsz5 := hw5.size
  have hgl5 := hw5.size
  have r0 := p3.cell 0 (by simp)
  have r1 := p3.cell 1 (by simp)
  have z0 := p3.fr 0
  have z1 := p3.fr 1
  have HS := hide hset
  clear hset p3 p2 hcz hfz hbn hzn e0 e1 hwz hEz
  go_wp2
  have hO1 : Only (w.heap.size + 1) w5 ((w5.setCell ⟨w.heap.size + 1, 0, none⟩ (.int .i64 sz)).setCell ⟨w.heap.size + 1, 1, none⟩ (.slice (some ⟨g, 0, none⟩) vs.length c2)) := ((Only.refl _ w5).setCell 0 _).setCell 1 _
  refine bodyPost_ret (v := .tuple #[.agg #[.int .i64 sz, .slice (some ⟨g, 0, none⟩) vs.length c2], .bool true]) (by simp [results, Tryz.results60, go_sem, r0, r1]) rfl ⟨_, _, rfl, ?_, Only.ext hEw hO1 (by omega)⟩
  exact (HS.out.only (by omega) hO1).rd

end Go.Proofs.YtilcdnkkabmbfaaGreat
