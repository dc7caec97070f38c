/- A vote that is replaced: WithRanking of the program. A vote that is replaced: WithRanking of the spec. Whether a ballot may be changed, and the best answer of the spec. The ballots of a vote that lead to each candidate, of the program. Who can be reached by changing a ballot, of the program and of the spec. Whether nobody has a better answer, of the program and of the spec. FnExactIsSettled, walked in the program. FnExactIsSettled, walked in the spec. -/
import Derived.Test.YtfmeklgdaabooaaGreatDoorCn22
import Derived.Test.YtfmeklgdaabooaaGreatDoorCn21
import Derived.Test.YtfmeklgdaabooaaGreatDoorCn20
import Derived.Test.YtfmeklgdaabooaaGreatDoorCn15
import Derived.Test.YtfmeklgdaabooaaGreatDoorCn5
namespace Go.Proofs.YtfmeklgdaabooaaGreatDoor
open Go.RowKit

set_option maxRecDepth 100000 in
theorem map_same (vs : List Vt) : vs.map (fun x => ((fun r : List Int => r) x.1, x.2)) = vs := by simp

set_option maxRecDepth 100000 in
set_option maxHeartbeats 4000000 in
theorem withR_impl (w : World) (sz : Int) (a ar : Option Addr) (c cr k : Nat) (vs : List Vt) (r : List Int) (x : Vt) (hx : vs[k]? = some x) (hR : RdV w a vs) (hRr : RdI w ar r) (h0 : profOk sz vs = true) (hr : rkOk sz r = true) (hcr : r.length ≤ cr) :
    Calls Tryz.prog 8 #[.agg #[.int .i64 sz, .slice a vs.length c], .int .i64 k, .slice ar r.length cr] w fun e w' => ∃ a' c', e = .returned (.tuple #[.agg #[.int .i64 sz, .slice a' vs.length c'], .bool true]) ∧ RdV w' a' (vs.set k (r, x.2)) ∧ Ext w w' := by
  have hsz := prof_size h0
  have hvl := (prof_small h0).1
  have hk := lt_of_at hx
  have hrl := rk_len hr
  have H0 := hide h0
  have HR := hide hr
  have HX := hide hx
  have hin : inR (k : Int) 0 ((vs.length : Int) - 1) = true := inR_iff.2 (by omega)
  have q0 := new0 w (.int .i64 sz) [.slice a vs.length c] 26
  have q1 := new1 w (.int .i64 sz) (.slice a vs.length c) [] 26
  have hs0 : (w.alloc (.cells #[.int .i64 sz, .slice a vs.length c] 26)).heap.size = w.heap.size + 1 := by simp
  have p0 := BlkF.new (w.alloc (.cells #[.int .i64 sz, .slice a vs.length c] 26)) #[.int .i64 0, .slice none 0 0] 26
  rw [hs0] at p0
  have HW : Hid (wrap64 ((vs.length : Int) - 1) = (vs.length : Int) - 1) := IntWalk.wrap64_in _ (by omega)
  have HPO : Hid (∀ w', Ext w w' → Calls Tryz.prog 25 #[.agg #[.int .i64 sz, .slice a vs.length c]] w' fun e w'' => e = .returned (.bool true) ∧ Ext w' w'') := fun w' hw' => by
    have h := prof_impl w' sz a c vs (hR.ext hw')
    rw [h0] at h
    exact h
  have HRO : Hid (∀ w', Ext w w' → Calls Tryz.prog 27 #[.int .i64 sz, .slice ar r.length cr] w' fun e w'' => e = .returned (.bool true) ∧ Ext w' w'') := fun w' hw' => by
    have h := rank_impl w' sz ar cr r (hRr.ext hw') hcr
    rw [hr] at h
    exact h
  have HIN : Hid (∀ w', Calls Tryz.prog 26 #[.int .i64 k, .int .i64 0, .int .i64 ((vs.length : Int) - 1)] w' fun e w'' => e = .returned (.bool true) ∧ Ext w' w'') := fun w' => by
    have h := in_impl (k : Int) 0 ((vs.length : Int) - 1) w'
    rw [hin] at h
    exact h
  have HCL : Hid (∀ w', Ext w w' → Calls Tryz.prog 29 #[.slice ar r.length cr] w' fun e w'' => ∃ v, e = .returned v ∧ OwnI w'' w'.heap.size v r ∧ Ext w' w'') := fun w' hw' => cln_impl w' ar cr r (hRr.ext hw') (by omega)
  clear hx hr h0 hin hs0
  have y0 := HW.out
  go_enter Tryz.func8, Tryz.ntmps8
  go_wp2_with (first
    | (go_at_call 25; refine (HPO.out _ (by repeat (first | exact Ext.refl _ | assumption | refine Ext.alloc ?_ _ | refine Ext.drew ?_ | refine Ext.trans ?_ (by assumption)))).mono ?_; rintro e w1 ⟨rfl, hw1⟩; have q0 := Ext.keep (w' := w1) (by repeat (first | exact Ext.refl _ | assumption | refine Ext.alloc ?_ _ | refine Ext.drew ?_ | refine Ext.trans ?_ (by assumption))) q0; have q1 := Ext.keep (w' := w1) (by repeat (first | exact Ext.refl _ | assumption | refine Ext.alloc ?_ _ | refine Ext.drew ?_ | refine Ext.trans ?_ (by assumption))) q1)
    | (go_at_call 26; refine (HIN.out _).mono ?_; rintro e w1 ⟨rfl, hw1⟩; have q0 := Ext.keep (w' := w1) (by repeat (first | exact Ext.refl _ | assumption | refine Ext.alloc ?_ _ | refine Ext.drew ?_ | refine Ext.trans ?_ (by assumption))) q0; have q1 := Ext.keep (w' := w1) (by repeat (first | exact Ext.refl _ | assumption | refine Ext.alloc ?_ _ | refine Ext.drew ?_ | refine Ext.trans ?_ (by assumption))) q1)
    | (go_at_call 27; refine (HRO.out _ (by repeat (first | exact Ext.refl _ | assumption | refine Ext.alloc ?_ _ | refine Ext.drew ?_ | refine Ext.trans ?_ (by assumption)))).mono ?_; rintro e w1 ⟨rfl, hw1⟩; have q0 := Ext.keep (w' := w1) (by repeat (first | exact Ext.refl _ | assumption | refine Ext.alloc ?_ _ | refine Ext.drew ?_ | refine Ext.trans ?_ (by assumption))) q0; have q1 := Ext.keep (w' := w1) (by repeat (first | exact Ext.refl _ | assumption | refine Ext.alloc ?_ _ | refine Ext.drew ?_ | refine Ext.trans ?_ (by assumption))) q1))
  have p1 := p0.ext (w' := w1) (by repeat (first | exact Ext.refl _ | assumption | refine Ext.alloc ?_ _ | refine Ext.drew ?_ | refine Ext.trans ?_ (by assumption)))
  have hw : Ext w w1 := (by repeat (first | exact Ext.refl _ | assumption | refine Ext.alloc ?_ _ | refine Ext.drew ?_ | refine Ext.trans ?_ (by assumption)))
  clear y0 p0 hw1 HRO HIN HPO
  obtain ⟨wb, hwb⟩ : ∃ wb : World, wb = w1 := ⟨_, rfl⟩
  subst hwb
  refine (clone_impl _ sz a c vs (hR.ext hw) H0.out).mono ?_
  rintro e w2 ⟨v, es, rfl, hl, hm, hw2⟩
  rw [map_same] at hm
  have hel := vtsOf_len hm
  obtain ⟨g, c2, rfl, hc2, hg, hgl⟩ := hl.at0 (fun e => by rw [e] at hel; simp at hel; omega)
  obtain ⟨e, he, he1, he2⟩ := vtsOf_at hm HX.out
  rw [hel] at hc2 hl ⊢
  have hbe := hl.1.own
  rw [hel] at hbe
  have b0 := hbe.cell (k * 2) (by omega)
  have z0 := hbe.fr (k * 2)
  have p2 := p1.ext (hw2.trans (Ext.new w2 (.cells #[.int .i64 sz, .slice (some ⟨g, 0, none⟩) vs.length c2] 26)))
  have e0 := new0 w2 (.int .i64 sz) [.slice (some ⟨g, 0, none⟩) vs.length c2] 26
  have e1 := new1 w2 (.int .i64 sz) (.slice (some ⟨g, 0, none⟩) vs.length c2) [] 26
  have hE2 := Ext.new w2 (.cells #[.int .i64 sz, .slice (some ⟨g, 0, none⟩) vs.length c2] 26)
  have hbn := (hbe.ext hE2).cell (k * 2) (by omega)
  have hzn := (hbe.ext hE2).fr (k * 2)
  have HL := hide hl
  have HM := hide hm
  have HE := hide he
  have HE2 := hide he2
  have hwb1 : w.heap.size + 1 < wb.heap.size := p1.lt
  have hlt : w.heap.size + 1 < g := by omega
  obtain ⟨u0, hu0⟩ : ∃ u, u = (vtL es).getD (k * 2) undef := ⟨_, rfl⟩
  rw [← hu0] at hbn b0
  clear hl hm he he1 he2 hbe p1 hu0 hel b0 z0
  go_wp2
  refine wp_region_X (by kernel_rfl) (by kernel_rfl) ?_
  repeat' (refine wpX_stepQ (fun K hK => ?_)
           go_simp
           try (rw [if_neg (by intro h; simp [undef] at h)])
           try split
           all_goals
             first
             | (refine hK _ ?_
                clear hK K)
             | (apply Exists.intro
                refine ⟨fun wq hwq => ?_, hK _ ?_⟩
                · have hcq := hwq.cellS
                  go_simp
                  first
                  | exact ⟨Ext.refl _, rfl⟩
                clear hK K))
  refine wpX_stepS rfl (by kernel_rfl) (fun K hK wq hwq => ?_)
  go_simp
  refine (HCL.out _ (by repeat (first | exact Ext.refl _ | assumption | refine Ext.alloc ?_ _ | refine Ext.drew ?_ | refine Ext.trans ?_ (by assumption)))).mono ?_
  rintro e3 w3 ⟨u, rfl, hu, hw3⟩
  refine ⟨hw3, hK _ _ ?_⟩
  clear hK K
  obtain ⟨au, cu, rfl, hcu, _, hRu, hub⟩ := hu.val
  have hEq : Ext (w2.alloc (.cells #[.int .i64 sz, .slice (some ⟨g, 0, none⟩) vs.length c2] 26)) w3 := (by repeat (first | exact Ext.refl _ | assumption | refine Ext.alloc ?_ _ | refine Ext.drew ?_ | refine Ext.trans ?_ (by assumption)))
  have hgq : g < wq.heap.size := by
    have h1 := hwq.size
    simp at h1; omega
  have hbn := (hEq).keep hbn
  have e0 := hEq.keep e0
  have e1 := hEq.keep e1
  have hzn : w3.frozen? ⟨g, k * 2, none⟩ = false := (hEq.frozen (p := ⟨g, k * 2, none⟩) (by simp; omega)).trans hzn
  have p2 := p2.ext hEq
  have HUB : Hid (r ≠ [] → ∀ b off, au = some ⟨b, off, none⟩ → wb.heap.size ≤ b ∧ b ≠ g) := fun hne b off hab => by
    obtain ⟨g3, hg3, hb3, _⟩ := hub hne
    rw [hg3] at hab
    injection hab with hab
    injection hab with hab
    omega
  have HU := hide hRu
  have HL3 := hide (HL.out.ext (hE2.trans hEq))
  clear hub hu hRu hw3 hwq
  repeat' (refine wpX_stepQ (fun K hK => ?_)
           go_simp
           try (rw [if_neg (by intro h; simp [undef] at h)])
           try split
           all_goals
             first
             | (refine hK _ ?_
                clear hK K)
             | (apply Exists.intro
                refine ⟨fun wq hwq => ?_, hK _ ?_⟩
                · have hcq := hwq.cellS
                  go_simp
                  first
                  | exact ⟨Ext.refl _, rfl⟩
                clear hK K))
  refine wpX_stepC rfl (by kernel_rfl) (fun K hK' wz hwz => ?_)
  have hcz := hwz.cellS
  have hfz := hwz.frozenS
  go_simp
  refine hK' _ _ ?_
  clear hK' K
  obtain ⟨hset, hO⟩ := (HL3.out.ext hwz).setRd HE.out (HU.out.ext hwz) rfl hcu HUB.out
  rw [HM.out, HE2.out] at hset
  have hEz : Ext w3 wz := hwz
  have f0 := hO.keep (p := ⟨w2.heap.size, 0, none⟩) (by simp; omega) (hEz.keep e0)
  have f1 := hO.keep (p := ⟨w2.heap.size, 1, none⟩) (by simp; omega) (hEz.keep e1)
  have p3 := hO.blk (p2.ext hEz) (by omega)
  have hEw : Ext w (wz.setCell ⟨g, k * 2, none⟩ (.slice au r.length cu)) := Only.ext (hw.trans (hw2.trans (hE2.trans (hEq.trans hEz)))) hO (by omega)
  generalize wz.setCell ⟨g, k * 2, none⟩ (.slice au r.length cu) = w6 at hset hO f0 f1 p3 hEw ⊢
  clear hO
  refine wpX_nil (fun w5 hw5 => ?_)
  have hset := hset.ext hw5
  have f0 := hw5.keep f0
  have f1 := hw5.keep f1
  have p3 := p3.ext hw5
  have hEw := hEw.trans hw5
  have hsz5 := hw5.size
  have hgl5 := hw5.size
  have r0 := p3.cell 0 (by simp)
  have r1 := p3.cell 1 (by simp)
  have z0 := p3.fr 0
  have z1 := p3.fr 1
  have HS := hide hset
  clear hset p3 p2 hcz hfz hbn hzn e0 e1 hwz hEz
  go_wp2
  have hO1 : Only (w.heap.size + 1) w5 ((w5.setCell ⟨w.heap.size + 1, 0, none⟩ (.int .i64 sz)).setCell ⟨w.heap.size + 1, 1, none⟩ (.slice (some ⟨g, 0, none⟩) vs.length c2)) := ((Only.refl _ w5).setCell 0 _).setCell 1 _
  refine bodyPost_ret (v := .tuple #[.agg #[.int .i64 sz, .slice (some ⟨g, 0, none⟩) vs.length c2], .bool true]) (by simp [results, Tryz.results8, go_sem, r0, r1]) rfl ⟨_, _, rfl, ?_, Only.ext hEw hO1 (by omega)⟩
  exact (HS.out.only (by omega) hO1).rd

open Go.RowKit

set_option maxRecDepth 100000 in
set_option maxHeartbeats 2000000 in
theorem ply_impl (w : World) (rule sz : Int) (a : Option Addr) (c : Nat) (vs : List Vt) (hR : RdV w a vs) :
    Calls Tryz.prog 33 #[.int .i64 rule, .agg #[.int .i64 sz, .slice a vs.length c]] w fun e w' => e = .returned (.bool (plyB rule sz vs)) ∧ Ext w w' := by
  have q0 := new0 w (.int .i64 sz) [.slice a vs.length c] 26
  have q1 := new1 w (.int .i64 sz) (.slice a vs.length c) [] 26
  have HV : Hid (plyB rule sz vs = (profOk sz vs && (decide (sz ≤ 4) && inR rule 1 13))) := rfl
  cases h0 : profOk sz vs <;> by_cases h4 : sz ≤ 4 <;> cases h1 : inR rule 1 13
  all_goals
    rw [h0, h1] at HV
    go_enter Tryz.func33, Tryz.ntmps33
    go_wp2_with (first | (go_at_call 25; refine (prof_impl _ _ _ _ _ (hR.ext (by repeat (first | exact Ext.refl _ | assumption | refine Ext.alloc ?_ _ | refine Ext.drew ?_ | refine Ext.trans ?_ (by assumption))))).mono ?_; rintro e w1 ⟨rfl, hw1⟩; have q0 := Ext.keep (w' := w1) (by repeat (first | exact Ext.refl _ | assumption | refine Ext.alloc ?_ _ | refine Ext.drew ?_ | refine Ext.trans ?_ (by assumption))) q0; have q1 := Ext.keep (w' := w1) (by repeat (first | exact Ext.refl _ | assumption | refine Ext.alloc ?_ _ | refine Ext.drew ?_ | refine Ext.trans ?_ (by assumption))) q1) | (go_at_call 26; refine (in_impl _ _ _ _).mono ?_; rintro e w1 ⟨rfl, hw1⟩; have q0 := Ext.keep (w' := w1) (by repeat (first | exact Ext.refl _ | assumption | refine Ext.alloc ?_ _ | refine Ext.drew ?_ | refine Ext.trans ?_ (by assumption))) q0; have q1 := Ext.keep (w' := w1) (by repeat (first | exact Ext.refl _ | assumption | refine Ext.alloc ?_ _ | refine Ext.drew ?_ | refine Ext.trans ?_ (by assumption))) q1))
    go_ret
    exact ⟨ret_bool (by rw [HV.out]; simp [h4]), (by repeat (first | exact Ext.refl _ | assumption | refine Ext.alloc ?_ _ | refine Ext.drew ?_ | refine Ext.trans ?_ (by assumption)))⟩

set_option maxRecDepth 100000 in
theorem ply_ok {rule sz : Int} {vs : List Vt} (h : plyB rule sz vs = true) : profOk sz vs = true ∧ sz ≤ 4 ∧ 1 ≤ rule ∧ rule ≤ 13 := by
  unfold plyB at h
  simp only [Bool.and_eq_true, decide_eq_true_eq] at h
  exact ⟨h.1, h.2.1, inR_iff.1 h.2.2⟩

set_option maxRecDepth 100000 in
set_option maxHeartbeats 2000000 in
theorem gn_impl (w : World) (rule sz k : Int) (a : Option Addr) (c : Nat) (vs : List Vt) (hR : RdV w a vs) :
    Calls Tryz.prog 23 #[.int .i64 rule, .agg #[.int .i64 sz, .slice a vs.length c], .int .i64 k] w fun e w' => e = .returned (.bool (gnB rule sz vs k)) ∧ Ext w w' := by
  have q0 := new0 w (.int .i64 sz) [.slice a vs.length c] 26
  have q1 := new1 w (.int .i64 sz) (.slice a vs.length c) [] 26
  have HV : Hid (gnB rule sz vs k = (plyB rule sz vs && inR k 0 ((vs.length : Int) - 1))) := rfl
  have HP : Hid (∀ w', Ext w w' → Calls Tryz.prog 33 #[.int .i64 rule, .agg #[.int .i64 sz, .slice a vs.length c]] w' fun e w'' => e = .returned (.bool (plyB rule sz vs)) ∧ Ext w' w'') := fun w' hw' => ply_impl w' rule sz a c vs (hR.ext hw')
  cases hp : plyB rule sz vs
  · rw [hp] at HP HV
    clear hp
    go_enter Tryz.func23, Tryz.ntmps23
    go_wp2_with (go_at_call 33; refine (HP.out _ (by repeat (first | exact Ext.refl _ | assumption | refine Ext.alloc ?_ _ | refine Ext.drew ?_ | refine Ext.trans ?_ (by assumption)))).mono ?_; rintro e w1 ⟨rfl, hw1⟩; have q0 := Ext.keep (w' := w1) (by repeat (first | exact Ext.refl _ | assumption | refine Ext.alloc ?_ _ | refine Ext.drew ?_ | refine Ext.trans ?_ (by assumption))) q0; have q1 := Ext.keep (w' := w1) (by repeat (first | exact Ext.refl _ | assumption | refine Ext.alloc ?_ _ | refine Ext.drew ?_ | refine Ext.trans ?_ (by assumption))) q1)
    go_ret
    exact ⟨ret_bool (by rw [HV.out]; rfl), (by repeat (first | exact Ext.refl _ | assumption | refine Ext.alloc ?_ _ | refine Ext.drew ?_ | refine Ext.trans ?_ (by assumption)))⟩
  · have hvl := (prof_small (ply_ok hp).1).1
    rw [hp] at HP HV
    have HY : Hid (wrap64 ((vs.length : Int) - 1) = (vs.length : Int) - 1) := IntWalk.wrap64_in _ (by omega)
    clear hp
    go_enter Tryz.func23, Tryz.ntmps23
    have y0 := HY.out
    go_wp2_with (first | (go_at_call 33; refine (HP.out _ (by repeat (first | exact Ext.refl _ | assumption | refine Ext.alloc ?_ _ | refine Ext.drew ?_ | refine Ext.trans ?_ (by assumption)))).mono ?_; rintro e w1 ⟨rfl, hw1⟩; have q0 := Ext.keep (w' := w1) (by repeat (first | exact Ext.refl _ | assumption | refine Ext.alloc ?_ _ | refine Ext.drew ?_ | refine Ext.trans ?_ (by assumption))) q0; have q1 := Ext.keep (w' := w1) (by repeat (first | exact Ext.refl _ | assumption | refine Ext.alloc ?_ _ | refine Ext.drew ?_ | refine Ext.trans ?_ (by assumption))) q1) | (go_at_call 26; refine (in_impl _ _ _ _).mono ?_; rintro e w1 ⟨rfl, hw1⟩; have q0 := Ext.keep (w' := w1) (by repeat (first | exact Ext.refl _ | assumption | refine Ext.alloc ?_ _ | refine Ext.drew ?_ | refine Ext.trans ?_ (by assumption))) q0; have q1 := Ext.keep (w' := w1) (by repeat (first | exact Ext.refl _ | assumption | refine Ext.alloc ?_ _ | refine Ext.drew ?_ | refine Ext.trans ?_ (by assumption))) q1))
    go_ret
    exact ⟨ret_bool (by rw [HV.out]; simp), (by repeat (first | exact Ext.refl _ | assumption | refine Ext.alloc ?_ _ | refine Ext.drew ?_ | refine Ext.trans ?_ (by assumption)))⟩

/-- Each cell is nil, or a ranking. -/
def WaysOk (w : World) (B n : Nat) (q : Int → Option (List Int)) (V : Nat → Value) : Prop := ∀ a : Nat, a < n → (q a = none ∧ V a = .slice none 0 0) ∨ ∃ r g c, q a = some r ∧ V a = .slice (some ⟨g, 0, none⟩) r.length c ∧ r.length ≤ c ∧ OwnI w B (V a) r
set_option maxRecDepth 100000 in
theorem WaysOk.ext {w w' : World} {B n : Nat} {q : Int → Option (List Int)} {V : Nat → Value} (h : WaysOk w B n q V) (hw : Ext w w') : WaysOk w' B n q V := fun a ha => by
  rcases h a ha with h | ⟨r, g, c, h1, h2, h3, h4⟩
  · exact .inl h
  · exact .inr ⟨r, g, c, h1, h2, h3, h4.ext hw⟩
set_option maxRecDepth 100000 in
theorem WaysOk.base {w : World} {B B' n : Nat} {q : Int → Option (List Int)} {V : Nat → Value} (h : WaysOk w B n q V) (hb : B' ≤ B) : WaysOk w B' n q V := fun a ha => by
  rcases h a ha with h | ⟨r, g, c, h1, h2, h3, h4⟩
  · exact .inl h
  · exact .inr ⟨r, g, c, h1, h2, h3, h4.base hb⟩
set_option maxRecDepth 100000 in
theorem WaysOk.rng {w w' : World} {B n lo hi : Nat} {q : Int → Option (List Int)} {V : Nat → Value} (h : WaysOk w B n q V) (hg : hi ≤ B) (hw : Rng lo hi w w') : WaysOk w' B n q V := fun a ha => by
  rcases h a ha with h | ⟨r, g, c, h1, h2, h3, h4⟩
  · exact .inl h
  · exact .inr ⟨r, g, c, h1, h2, h3, h4.rng hg hw⟩

set_option maxRecDepth 100000 in
set_option maxHeartbeats 8000000 in
theorem ways_impl (w : World) (rule : Int) (n : Nat) (a : Option Addr) (c k : Nat) (vs : List Vt) (x : Vt) (hx : vs[k]? = some x) (hR : RdV w a vs) (h0 : profOk n vs = true) (r1 : 1 ≤ rule) (r2 : rule ≤ 13) :
    Calls Tryz.prog 24 #[.int .i64 rule, .agg #[.int .i64 n, .slice a vs.length c], .int .i64 k] w fun e w' => ∃ g V, e = .returned (.slice (some ⟨g, 0, none⟩) n n) ∧ BlkF w' g n V ∧ WaysOk w' w.heap.size n (wayO (gnW rule n vs k) (allO n)) V ∧ w.heap.size ≤ g ∧ Ext w w' := by
  have hsz := prof_size h0
  have n1 : 1 ≤ n := by omega
  have n2 : n ≤ 5 := by omega
  have hnil : ∀ (W : World) (a : Addr) (n c : Nat), (binOp .eql 28 (.slice (some a) n c) (.slice none 0 0)).run Tryz.prog W = .ok (.bool false) W := fun W a n c => Lib.run_eql_slice_some_nil W a n c Tryz.underlying28
  have hnn : ∀ (W : World), (binOp .eql 28 (.slice none 0 0) (.slice none 0 0)).run Tryz.prog W = .ok (.bool true) W := fun W => Lib.run_eql_slice_nil_nil W 0 0 Tryz.underlying28
  obtain ⟨i0, hi, hz0, hz1, hz2⟩ := info_parts info_row
  have hmk := fun W => run_make_rowN (P := Tryz.prog) 50 28 i0 _ Tryz.underlying50 hi hz0 .i64 .i64 n n (Nat.le_refl _) (by rw [hz2]; omega) (by omega) W
  rw [hz1, Nat.mul_one] at hmk
  have q0 := new0 w (.int .i64 n) [.slice a vs.length c] 26
  have q1 := new1 w (.int .i64 n) (.slice a vs.length c) [] 26
  have hs0 : (w.alloc (.cells #[.int .i64 n, .slice a vs.length c] 26)).heap.size = w.heap.size + 1 := by simp
  have hE1 := Ext.new w (.cells #[.int .i64 n, .slice a vs.length c] 26)
  have H0 := hide h0
  have HX := hide hx
  have HWR : Hid (∀ w' ar cr r, Ext w w' → RdI w' ar r → rkOk n r = true → r.length ≤ cr → Calls Tryz.prog 8 #[.agg #[.int .i64 n, .slice a vs.length c], .int .i64 k, .slice ar r.length cr] w' fun e w'' => ∃ a' c', e = .returned (.tuple #[.agg #[.int .i64 n, .slice a' vs.length c'], .bool true]) ∧ RdV w'' a' (vs.set k (r, x.2)) ∧ Ext w' w'') := fun w' ar cr r hw' hRr hr hcr => withR_impl w' n a ar c cr k vs r x hx (hR.ext hw') hRr h0 hr hcr
  obtain ⟨W, hW⟩ : ∃ W, W = gnW rule n vs k := ⟨_, rfl⟩
  have HWI : Hid (∀ w' a3 c3 r, RdV w' a3 (vs.set k (r, x.2)) → Calls Tryz.prog 9 #[.int .i64 rule, .agg #[.int .i64 n, .slice a3 vs.length c3]] w' fun e w'' => e = .returned (.int .i64 (W r)) ∧ Ext w' w'') := fun w' a3 c3 r hR3 => by
    have h := winb_impl w' rule n a3 c3 _ hR3
    rw [List.length_set] at h
    rw [hW, show gnW rule n vs k r = winB rule n (vs.set k (r, x.2)) by unfold gnW; rw [show vs.getD k ([], 0) = x by simp [List.getD, hx]]]
    exact h
  have HWL : Hid (∀ r, rkOk n r = true → ∃ y : Nat, y < n ∧ W r = y) := fun r hr => by rw [hW]; exact gnW_lt h0 r1 r2 hx hr
  rw [← hW]
  clear hW h0 hx
  go_enter Tryz.func24, Tryz.ntmps24
  go_wp2_with fail
  clear hmk hi hz0 hz1 hz2
  generalize w.alloc (.cells #[.int .i64 n, .slice a vs.length c] 26) = wA at hE1 hs0 q0 q1 ⊢
  have hB := BlkF.new wA (madeCells #[.slice none 0 0] n) 28
  rw [size_madeCells] at hB
  have hB := hB.congr (f' := fun _ => .slice none 0 0) (fun o ho => made_row n o ho)
  have h20 := Ext.new wA (.cells (madeCells #[.slice none 0 0] n) 28)
  have hglt := hB.lt
  obtain ⟨g, hg⟩ : ∃ g : Nat, g = wA.heap.size := ⟨_, rfl⟩
  generalize wA.alloc (.cells (madeCells #[.slice none 0 0] n) 28) = W0 at hB h20 hglt ⊢
  rw [← hs0, ← hg]
  rw [← hg] at hB hglt
  have hwg : w.heap.size < g := by omega
  have q0 := h20.keep q0
  have q1 := h20.keep q1
  clear hg hs0
  refine (allR_impl _ n n1 n2).mono ?_
  rintro e w3 ⟨v, rfl, hv, hw3⟩
  have HM : Hid (∀ r ∈ allO n, rkOk n r = true) := fun r hr => (allO_mem n1 n2).1 hr
  have hrl : (allO n).length ≤ 3125 := Nat.le_trans (allS_len n2 n []) (Nat.pow_le_pow_right (n := 5) (by decide) n2)
  generalize hrw : allO n = rows at hv HM hrl
  have HRW := hide hrw
  clear hrw
  have hv := hv.wr
  have hv' := hv
  obtain ⟨av, cv, rfl, hcv, hju⟩ := hv'
  clear hju
  have hB := hB.ext hw3
  have Q0 := hw3.keep q0
  have Q1 := hw3.keep q1
  have hwc : Ext w w3 := hE1.trans (h20.trans hw3)
  obtain ⟨B, hBB⟩ : ∃ B, B = W0.heap.size := ⟨_, rfl⟩
  rw [← hBB] at hv hglt
  have hwB : w.heap.size ≤ B := by rw [hBB]; exact (hE1.trans h20).size
  clear hBB hE1 h20 hw3
  obtain ⟨wc, hwcc⟩ : ∃ wc : World, wc = w3 := ⟨_, rfl⟩
  subst hwcc
  go_wp2_with fail
  go_loopw [9, 10, 11, 12, 20] (fun _ _ _ _ i wr => ∃ (m : Nat) (V : Nat → Value), m ≤ rows.length ∧ i = .int .i64 m ∧ BlkF wr g n V ∧ Hid (WaysOk wr B n (wayO W (rows.take m)) V) ∧ Only g wc wr) (fun _ _ _ _ i _ => rows.length - (intOf i).toNat)
  case atStart => exact ⟨0, _, Nat.zero_le _, rfl, hB, fun a ha => .inl ⟨by simp [wayO], rfl⟩, Only.refl _ _⟩
  case round =>
    clear hB
    obtain ⟨m, V, hm, rfl, hB, hwy, hon⟩ := hrel
    by_cases hmt : m < rows.length
    · obtain ⟨r, hr⟩ := at_of_lt hmt
      have hEr : Ext w wr := Only.ext hwc hon (by omega)
      obtain ⟨g2, c3, a3, c4, hav, d0, hc4, hO⟩ := (hv.rng (lo := g) (hi := g + 1) (by omega) (Rng.of_only hon (Nat.le_refl _) (by omega))).own hr
      injection hav with hav hav2 hav3
      subst hav
      subst hav3
      clear hav2
      have hrk := HM.out r (List.mem_of_getElem? hr)
      have hrn : 0 < r.length := by have := (rk_len hrk).1; omega
      obtain ⟨g3, c5, hsl⟩ := hO.some hrn
      injection hsl with s1 s2 s3
      subst s1
      subst s3
      clear s2
      obtain ⟨y, hy, hWy⟩ := HWL.out r hrk
      have HWA := hide (wayO_at (W := W) hr)
      have HWY := hide hWy
      have HWRr := hide (HWR.out wr (some ⟨g3, 0, none⟩) c4 r hEr hO.rdI hrk hc4)
      have q0 := hon.keep (by dsimp only; omega) Q0
      have q1 := hon.keep (by dsimp only; omega) Q1
      have HO := hide hO
      have hm1 : m + 1 ≤ rows.length := by omega
      have yi : (y : Int) < (n : Int) := by omega
      have yj : (0 : Int) ≤ (y : Int) := by omega
      have HRL := hide hrn
      clear hr hrk hO hWy hrn
      go_wp2_with fail
      refine HWRr.out.mono ?_
      rintro e w4 ⟨a4, c6, rfl, hR4, hw4⟩
      have hE5 := Ext.new w4 (.cells #[.int .i64 n, .slice a4 vs.length c6] 26)
      have HWJ := HWI.out (w4.alloc (.cells #[.int .i64 n, .slice a4 vs.length c6] 26)) a4 c6 r (hR4.ext hE5)
      rw [HWY.out] at HWJ
      have HWJ := hide HWJ
      clear hR4 HWRr
      go_wp2_with fail
      refine HWJ.out.mono ?_
      rintro e w5 ⟨rfl, hw5⟩
      have hE6 : Ext wr w5 := hw4.trans (hE5.trans hw5)
      have hB6 := hB.ext hE6
      have hwy6 := hwy.out.ext hE6
      have cy := hB6.cell y hy
      have zy := hB6.fr y
      have hbl := hB6.lt
      rcases hwy6 y hy with ⟨hq, hV⟩ | ⟨r', g', c', hq, hV, _, _⟩
      · rw [hV] at cy
        have HV := hide hV
        have HQ := hide hq
        have HB6 := hide hB6
        have HW6 := hide hwy6
        have HO6 := hide (HO.out.ext hE6)
        clear hB hwy hq hV hB6 hwy6
        go_wp2
        have hOg : Only g w5 (w5.setCell ⟨g, y, none⟩ (.slice (some ⟨g3, 0, none⟩) r.length c4)) := (Only.refl g w5).setCell _ _
        have hRg : Rng g (g + 1) w5 (w5.setCell ⟨g, y, none⟩ (.slice (some ⟨g3, 0, none⟩) r.length c4)) := Rng.of_only hOg (Nat.le_refl _) (by omega)
        refine ⟨⟨m + 1, fun o => if o = y then .slice (some ⟨g3, 0, none⟩) r.length c4 else V o, hm1, by go_num, HB6.out.set y hy _, hide (fun a' ha' => ?_), (hon.trans (Only.of_ext hE6)).trans hOg⟩, by simp [intOf]; omega⟩
        rw [HWA.out]
        by_cases e : a' = y
        · subst e
          refine .inr ⟨r, g3, c4, by rw [if_pos ⟨by rw [HQ.out]; rfl, HWY.out⟩], by dsimp only; rw [if_pos rfl], hc4, ?_⟩
          dsimp only
          rw [if_pos rfl]
          exact HO6.out.rng (by omega) hRg
        · rw [if_neg (fun h => e (by have := h.2; rw [HWY.out] at this; omega))]
          have h := (HW6.out.rng (by omega) hRg) a' ha'
          dsimp only
          rw [if_neg e]
          exact h
      · rw [hV] at cy
        have HQ := hide hq
        have HB6 := hide hB6
        have HW6 := hide hwy6
        clear hB hwy hq hV hB6 hwy6
        go_wp2
        refine ⟨⟨m + 1, V, hm1, by go_num, HB6.out, hide (fun a' ha' => ?_), hon.trans (Only.of_ext hE6)⟩, by simp [intOf]; omega⟩
        rw [HWA.out, if_neg (fun h => by
          have h2 := h.2
          rw [HWY.out] at h2
          have h1 := h.1
          rw [← h2, HQ.out] at h1
          cases h1)]
        exact HW6.out a' ha'
    · have hml : m = rows.length := by omega
      have HW := hwy.out
      rw [hml, List.take_length] at HW
      have HW := hide HW
      have HB := hide hB
      clear hml hwy hB
      go_wp2
      go_ret
      exact ⟨_, _, rfl, HB.out, by rw [HRW.out]; exact HW.out.base hwB, by omega, Only.ext hwc hon (by omega)⟩

set_option maxRecDepth 100000 in
theorem run_neq_some {P : Program} (w : World) {t e : TypeId} (a : Addr) (n c : Nat) (ht : P.underlying t = some (.slice e)) :
    (binOp .neq t (.slice (some a) n c) (.slice none 0 0)).run P w = .ok (.bool true) w := by
  have h : ∀ d : Nat, (Op.equalIn (d + 1) t (.slice (some a) n c) (.slice none 0 0)).run P w = .ok false w := fun d => by
    simp [Op.equalIn, run_underlying ht]
  simp only [binOp]
  simp [Op.equal, Op.maxDepth, h 9999]
set_option maxRecDepth 100000 in
theorem run_neq_none {P : Program} (w : World) {t e : TypeId} (n c : Nat) (ht : P.underlying t = some (.slice e)) :
    (binOp .neq t (.slice none n c) (.slice none 0 0)).run P w = .ok (.bool false) w := by
  have h : ∀ d : Nat, (Op.equalIn (d + 1) t (.slice none n c) (.slice none 0 0)).run P w = .ok true w := fun d => by
    simp [Op.equalIn, run_underlying ht]
  simp only [binOp]
  simp [Op.equal, Op.maxDepth, h 9999]
set_option maxRecDepth 100000 in
theorem gn_ok {rule sz k : Int} {vs : List Vt} (h : gnB rule sz vs k = true) : ∃ (n kn : Nat) (x : Vt), sz = n ∧ k = kn ∧ profOk n vs = true ∧ n ≤ 4 ∧ 1 ≤ rule ∧ rule ≤ 13 ∧ vs[kn]? = some x := by
  unfold gnB at h
  rw [Bool.and_eq_true] at h
  obtain ⟨h0, h4, r1, r2⟩ := ply_ok h.1
  obtain ⟨k1, k2⟩ := inR_iff.1 h.2
  obtain ⟨n, rfl, _, _⟩ := prof_nat h0
  obtain ⟨x, hx⟩ := at_of_lt (xs := vs) (k := k.toNat) (by omega)
  exact ⟨n, k.toNat, x, rfl, by omega, h0, by omega, r1, r2, hx⟩

set_option maxRecDepth 100000 in
set_option maxHeartbeats 4000000 in
theorem rea_impl (w : World) (rule sz : Int) (a : Option Addr) (c : Nat) (vs : List Vt) (k : Int) (hR : RdV w a vs) :
    Calls Tryz.prog 6 #[.int .i64 rule, .agg #[.int .i64 sz, .slice a vs.length c], .int .i64 k] w fun e w' => ∃ v, e = .returned v ∧ OwnI w' w.heap.size v (reaO rule sz vs k) ∧ Ext w w' := by
  have q0 := new0 w (.int .i64 sz) [.slice a vs.length c] 26
  have q1 := new1 w (.int .i64 sz) (.slice a vs.length c) [] 26
  have HG : Hid (∀ w', Ext w w' → Calls Tryz.prog 23 #[.int .i64 rule, .agg #[.int .i64 sz, .slice a vs.length c], .int .i64 k] w' fun e w'' => e = .returned (.bool (gnB rule sz vs k)) ∧ Ext w' w'') := fun w' hw' => gn_impl w' rule sz k a c vs (hR.ext hw')
  cases hg : gnB rule sz vs k
  · have HF : Hid (reaO rule sz vs k = []) := hide (by unfold reaO; rw [hg]; rfl)
    rw [hg] at HG
    clear hg
    go_enter Tryz.func6, Tryz.ntmps6
    go_wp2_with (go_at_call 23; refine (HG.out _ (by repeat (first | exact Ext.refl _ | assumption | refine Ext.alloc ?_ _ | refine Ext.drew ?_ | refine Ext.trans ?_ (by assumption)))).mono ?_; rintro e w1 ⟨rfl, hw1⟩; have q0 := Ext.keep (w' := w1) (by repeat (first | exact Ext.refl _ | assumption | refine Ext.alloc ?_ _ | refine Ext.drew ?_ | refine Ext.trans ?_ (by assumption))) q0; have q1 := Ext.keep (w' := w1) (by repeat (first | exact Ext.refl _ | assumption | refine Ext.alloc ?_ _ | refine Ext.drew ?_ | refine Ext.trans ?_ (by assumption))) q1)
    go_ret
    exact ⟨_, rfl, by rw [HF.out]; exact OwnI.nil _ _, (by repeat (first | exact Ext.refl _ | assumption | refine Ext.alloc ?_ _ | refine Ext.drew ?_ | refine Ext.trans ?_ (by assumption)))⟩
  obtain ⟨n, kn, x, rfl, rfl, h0, n4, r1, r2, hx⟩ := gn_ok hg
  have HV : Hid (reaO rule n vs kn = upL n (fun a => (wayO (gnW rule n vs kn) (allO n) a).isSome)) := hide (by unfold reaO; rw [if_pos hg, Int.toNat_natCast, Int.toNat_natCast])
  rw [hg] at HG
  have HWY : Hid (∀ w', Ext w w' → Calls Tryz.prog 24 #[.int .i64 rule, .agg #[.int .i64 n, .slice a vs.length c], .int .i64 kn] w' fun e w'' => ∃ g V, e = .returned (.slice (some ⟨g, 0, none⟩) n n) ∧ BlkF w'' g n V ∧ WaysOk w'' w'.heap.size n (wayO (gnW rule n vs kn) (allO n)) V ∧ w'.heap.size ≤ g ∧ Ext w' w'') := fun w' hw' => ways_impl w' rule n a c kn vs x hx (hR.ext hw') h0 r1 r2
  obtain ⟨q, hq⟩ : ∃ q, q = wayO (gnW rule n vs kn) (allO n) := ⟨_, rfl⟩
  rw [← hq] at HWY HV
  have hne : ∀ (W : World) (a : Addr) (n c : Nat), (binOp .neq 28 (.slice (some a) n c) (.slice none 0 0)).run Tryz.prog W = .ok (.bool true) W := fun W a n c => run_neq_some W a n c Tryz.underlying28
  have hnn : ∀ (W : World), (binOp .neq 28 (.slice none 0 0) (.slice none 0 0)).run Tryz.prog W = .ok (.bool false) W := fun W => run_neq_none W 0 0 Tryz.underlying28
  clear hg hq h0 hx
  go_enter Tryz.func6, Tryz.ntmps6
  go_wp2_with (go_at_call 23; refine (HG.out _ (by repeat (first | exact Ext.refl _ | assumption | refine Ext.alloc ?_ _ | refine Ext.drew ?_ | refine Ext.trans ?_ (by assumption)))).mono ?_; rintro e w1 ⟨rfl, hw1⟩; have q0 := Ext.keep (w' := w1) (by repeat (first | exact Ext.refl _ | assumption | refine Ext.alloc ?_ _ | refine Ext.drew ?_ | refine Ext.trans ?_ (by assumption))) q0; have q1 := Ext.keep (w' := w1) (by repeat (first | exact Ext.refl _ | assumption | refine Ext.alloc ?_ _ | refine Ext.drew ?_ | refine Ext.trans ?_ (by assumption))) q1)
  have hw : Ext w w1 := (by repeat (first | exact Ext.refl _ | assumption | refine Ext.alloc ?_ _ | refine Ext.drew ?_ | refine Ext.trans ?_ (by assumption)))
  obtain ⟨wb, hwb⟩ : ∃ wb : World, wb = w1 := ⟨_, rfl⟩
  subst hwb
  refine (HWY.out _ hw).mono ?_
  rintro e w2 ⟨g, V, rfl, hB, hwy, hgb, hw2⟩
  have hww := hw.trans hw2
  have HWK := hide hwy
  clear hwy HWY HG hw1
  go_wp2_with fail
  go_loopw [7, 8, 9, 20] (fun v _ _ i wr => ∃ m : Nat, m ≤ n ∧ i = .int .i64 m ∧ OwnI wr w2.heap.size v (upL m (fun a => (q a).isSome)) ∧ Ext w2 wr) (fun _ _ _ i _ => n - (intOf i).toNat)
  case atStart => exact ⟨0, Nat.zero_le _, rfl, OwnI.nil _ _, Ext.refl _⟩
  case round =>
    obtain ⟨m, hm, rfl, hown, hwr⟩ := hrel
    have hul := upL_len m (fun a => (q a).isSome)
    by_cases hmt : m < n
    · have cm := (hB.ext hwr).cell m hmt
      have hm1 : m + 1 ≤ n := by omega
      have hul2 : (upL m (fun a => (q a).isSome)).length ≤ 2000000 := by omega
      rcases HWK.out m hmt with ⟨hq, hV⟩ | ⟨r, g', c', hq, hV, _, _⟩
      · rw [hV] at cm
        have HN : Hid (upL (m + 1) (fun a => (q a).isSome) = upL m (fun a => (q a).isSome)) := hide (by rw [upL_succ]; simp [hq])
        clear hq hV
        go_wp2
        exact ⟨⟨m + 1, hm1, by go_num, by rw [HN.out]; exact hown, hwr⟩, by simp [intOf]; omega⟩
      · rw [hV] at cm
        have HN : Hid (upL (m + 1) (fun a => (q a).isSome) = upL m (fun a => (q a).isSome) ++ [(m : Int)]) := hide (by rw [upL_succ]; simp [hq])
        clear hq hV
        go_wp2_with (at_builtin; refine wpList_appI w2 _ rfl _ _ rfl _ (upL m (fun a => (q a).isSome)) _ rfl (hown.ext (by repeat (first | exact Ext.refl _ | assumption | refine Ext.alloc ?_ _ | refine Ext.drew ?_ | refine Ext.trans ?_ (by assumption)))) (by repeat (first | exact Ext.refl _ | assumption | refine Ext.alloc ?_ _ | refine Ext.drew ?_ | refine Ext.trans ?_ (by assumption))) rfl hul2 ?_; intro v' w3 hown3 hw3)
        exact ⟨⟨m + 1, hm1, by go_num, by rw [HN.out]; exact hown3, (by repeat (first | exact Ext.refl _ | assumption | refine Ext.alloc ?_ _ | refine Ext.drew ?_ | refine Ext.trans ?_ (by assumption)))⟩, by simp [intOf]; omega⟩
    · have hmn : m = n := by omega
      subst hmn
      have hws := hww.size
      go_wp2
      go_ret
      exact ⟨_, rfl, by rw [HV.out]; exact hown.base hws, hww.trans hwr⟩

set_option maxRecDepth 100000 in
set_option maxHeartbeats 8000000 in
theorem bet_impl (w : World) (rule : Int) (n : Nat) (a ar : Option Addr) (c cr k : Nat) (vs : List Vt) (x : Vt) (truth : List Int) (hx : vs[k]? = some x) (hR : RdV w a vs) (hRt : RdI w ar truth) (hk : rkOk n truth = true) (h0 : profOk n vs = true) (r1 : 1 ≤ rule) (r2 : rule ≤ 13) :
    Calls Tryz.prog 34 #[.int .i64 rule, .agg #[.int .i64 n, .slice a vs.length c], .int .i64 k, .slice ar truth.length cr] w fun e w' => ∃ v, e = .returned v ∧ ((betB rule n vs k truth = true ∧ ∃ g c', v = .slice (some ⟨g, 0, none⟩) (repO (gnW rule n vs k) truth n).1.length c' ∧ OwnI w' w.heap.size v (repO (gnW rule n vs k) truth n).1) ∨ (betB rule n vs k truth = false ∧ v = .slice none 0 0)) ∧ Ext w w' := by
  have hsz := prof_size h0
  have n1 : 1 ≤ n := by omega
  have n2 : n ≤ 5 := by omega
  have htl := (rk_len hk).1
  have q0 := new0 w (.int .i64 n) [.slice a vs.length c] 26
  have q1 := new1 w (.int .i64 n) (.slice a vs.length c) [] 26
  have HWB : Hid (∀ w', Ext w w' → Calls Tryz.prog 9 #[.int .i64 rule, .agg #[.int .i64 n, .slice a vs.length c]] w' fun e w'' => e = .returned (.int .i64 (winB rule n vs)) ∧ Ext w' w'') := fun w' hw' => winb_impl w' rule n a c vs (hR.ext hw')
  have HWY : Hid (∀ w', Ext w w' → Calls Tryz.prog 24 #[.int .i64 rule, .agg #[.int .i64 n, .slice a vs.length c], .int .i64 k] w' fun e w'' => ∃ g V, e = .returned (.slice (some ⟨g, 0, none⟩) n n) ∧ BlkF w'' g n V ∧ WaysOk w'' w'.heap.size n (wayO (gnW rule n vs k) (allO n)) V ∧ w'.heap.size ≤ g ∧ Ext w' w'') := fun w' hw' => ways_impl w' rule n a c k vs x hx (hR.ext hw') h0 r1 r2
  have hW : Hid (∀ r ∈ allO n, ∃ y : Nat, y < n ∧ gnW rule n vs k r = y) := fun r hr => gnW_lt h0 r1 r2 hx ((allO_mem n1 n2).1 hr)
  have HNE := hide (allO_pos n1 n2)
  have HBT : Hid (betB rule n vs k truth = prefB truth (repT (gnW rule n vs k) truth (allO n) (allO n).length).2 (winB rule n vs)) := hide (by unfold betB repO; rw [Int.toNat_natCast])
  have HRO : Hid (repO (gnW rule n vs k) truth n = repT (gnW rule n vs k) truth (allO n) (allO n).length) := rfl
  have hne : ∀ (W : World) (a : Addr) (n c : Nat), (binOp .neq 28 (.slice (some a) n c) (.slice none 0 0)).run Tryz.prog W = .ok (.bool true) W := fun W a n c => run_neq_some W a n c Tryz.underlying28
  have hnn : ∀ (W : World), (binOp .neq 28 (.slice none 0 0) (.slice none 0 0)).run Tryz.prog W = .ok (.bool false) W := fun W => run_neq_none W 0 0 Tryz.underlying28
  clear hx h0 r1 r2
  generalize gnW rule n vs k = W at HWY hW HBT HRO ⊢
  generalize winB rule n vs = win at HWB HBT
  generalize betB rule n vs k truth = bt at HBT ⊢
  generalize repO W truth n = ro at HRO ⊢
  generalize allO n = rows at HWY hW HNE HBT HRO
  have HV : Hid (∀ j (y : Int), truth[j]? = some y → ∃ d : Nat, d < n ∧ y = d) := hide (fun j y hj => by
    have h := rk_mem hk (List.mem_of_getElem? hj)
    exact ⟨y.toNat, by omega, by omega⟩)
  have HK := hide hk
  clear hk
  go_enter Tryz.func34, Tryz.ntmps34
  go_wp2_with fail
  have hw : Ext w (w.alloc (.cells #[.int .i64 n, .slice a vs.length c] 26)) := Ext.new w _
  have hwz := hw.size
  refine (HWY.out _ hw).mono ?_
  rintro e w2 ⟨g, V, rfl, hB, hwy, hgb, hw2⟩
  have hww := hw.trans hw2
  have hRt := hRt.ext hww
  have Q0 := hw2.keep q0
  have Q1 := hw2.keep q1
  have HWK := hide hwy
  clear hwy HWY
  go_wp2_with fail
  go_loopw [11, 18] (fun _ i wr => ∃ m : Nat, m ≤ truth.length ∧ i = .int .i64 m ∧ Hid (∀ j, j < m → ∀ b, truth[j]? = some b → wayO W rows b = none) ∧ Ext w2 wr) (fun _ i _ => truth.length - (intOf i).toNat)
  case atStart => exact ⟨0, Nat.zero_le _, rfl, hide (fun j hj => by omega), Ext.refl _⟩
  case round =>
    obtain ⟨m, hm, rfl, hno, hwr⟩ := hrel
    by_cases hmt : m < truth.length
    · obtain ⟨y, hy⟩ := at_of_lt hmt
      obtain ⟨b, off, rfl, c0⟩ := (hRt.ext hwr).at_ hy
      obtain ⟨d, hd, rfl⟩ := HV.out m y hy
      have HY := hide hy
      have cm := (hB.ext hwr).cell d hd
      have hm1 : m + 1 ≤ truth.length := by omega
      have q0 := hwr.keep Q0
      have q1 := hwr.keep Q1
      clear hy
      rcases HWK.out d hd with ⟨hq, hV⟩ | ⟨r, g', c', hq, hV, _, hO⟩
      · rw [hV] at cm
        have HQ := hide hq
        clear hq hV
        go_wp2
        refine ⟨⟨m + 1, hm1, by go_num, hide (fun j hj b hb => ?_), hwr⟩, by simp [intOf]; omega⟩
        by_cases e : j = m
        · subst e
          have := HY.out
          rw [this] at hb
          injection hb with hb
          subst hb
          exact HQ.out
        · exact hno.out j (by omega) b hb
      · have hro := best_at hW.out HNE.out HK.out HY.out hno.out hq
        rw [← HRO.out] at hro
        have HBT2 : Hid (bt = prefB truth (d : Int) win) := hide (by rw [HBT.out, ← HRO.out, hro])
        have HRL : Hid (r = ro.1) := hide (by rw [hro])
        have HO := hide hO
        rw [hV] at cm
        have hOV := hide hV
        clear hq hV hro hO
        have hlr : r.length = ro.1.length := by rw [HRL.out]
        rw [hlr] at cm
        clear hlr
        cases hbt : prefB truth (d : Int) win
        · have HF := hide (HBT2.out.trans hbt)
          go_wp2_with (first | (go_at_call 9; refine (HWB.out _ (by repeat (first | exact Ext.refl _ | assumption | refine Ext.alloc ?_ _ | refine Ext.drew ?_ | refine Ext.trans ?_ (by assumption)))).mono ?_; rintro e w1 ⟨rfl, hw1⟩; have q0 := Ext.keep (w' := w1) (by repeat (first | exact Ext.refl _ | assumption | refine Ext.alloc ?_ _ | refine Ext.drew ?_ | refine Ext.trans ?_ (by assumption))) q0; have q1 := Ext.keep (w' := w1) (by repeat (first | exact Ext.refl _ | assumption | refine Ext.alloc ?_ _ | refine Ext.drew ?_ | refine Ext.trans ?_ (by assumption))) q1; have cm := Ext.keep (w' := w1) (by repeat (first | exact Ext.refl _ | assumption | refine Ext.alloc ?_ _ | refine Ext.drew ?_ | refine Ext.trans ?_ (by assumption))) cm) | (go_at_call 10; refine (pref_impl _ _ _ _ _ _ (hRt.ext (by repeat (first | exact Ext.refl _ | assumption | refine Ext.alloc ?_ _ | refine Ext.drew ?_ | refine Ext.trans ?_ (by assumption)))) (by omega)).mono ?_; rintro e w1 ⟨rfl, hw1⟩; have q0 := Ext.keep (w' := w1) (by repeat (first | exact Ext.refl _ | assumption | refine Ext.alloc ?_ _ | refine Ext.drew ?_ | refine Ext.trans ?_ (by assumption))) q0; have q1 := Ext.keep (w' := w1) (by repeat (first | exact Ext.refl _ | assumption | refine Ext.alloc ?_ _ | refine Ext.drew ?_ | refine Ext.trans ?_ (by assumption))) q1; have cm := Ext.keep (w' := w1) (by repeat (first | exact Ext.refl _ | assumption | refine Ext.alloc ?_ _ | refine Ext.drew ?_ | refine Ext.trans ?_ (by assumption))) cm))
          go_ret
          exact ⟨_, rfl, .inr ⟨HF.out, rfl⟩, (by repeat (first | exact Ext.refl _ | assumption | refine Ext.alloc ?_ _ | refine Ext.drew ?_ | refine Ext.trans ?_ (by assumption)))⟩
        · have HF := hide (HBT2.out.trans hbt)
          go_wp2_with (first | (go_at_call 9; refine (HWB.out _ (by repeat (first | exact Ext.refl _ | assumption | refine Ext.alloc ?_ _ | refine Ext.drew ?_ | refine Ext.trans ?_ (by assumption)))).mono ?_; rintro e w1 ⟨rfl, hw1⟩; have q0 := Ext.keep (w' := w1) (by repeat (first | exact Ext.refl _ | assumption | refine Ext.alloc ?_ _ | refine Ext.drew ?_ | refine Ext.trans ?_ (by assumption))) q0; have q1 := Ext.keep (w' := w1) (by repeat (first | exact Ext.refl _ | assumption | refine Ext.alloc ?_ _ | refine Ext.drew ?_ | refine Ext.trans ?_ (by assumption))) q1; have cm := Ext.keep (w' := w1) (by repeat (first | exact Ext.refl _ | assumption | refine Ext.alloc ?_ _ | refine Ext.drew ?_ | refine Ext.trans ?_ (by assumption))) cm) | (go_at_call 10; refine (pref_impl _ _ _ _ _ _ (hRt.ext (by repeat (first | exact Ext.refl _ | assumption | refine Ext.alloc ?_ _ | refine Ext.drew ?_ | refine Ext.trans ?_ (by assumption)))) (by omega)).mono ?_; rintro e w1 ⟨rfl, hw1⟩; have q0 := Ext.keep (w' := w1) (by repeat (first | exact Ext.refl _ | assumption | refine Ext.alloc ?_ _ | refine Ext.drew ?_ | refine Ext.trans ?_ (by assumption))) q0; have q1 := Ext.keep (w' := w1) (by repeat (first | exact Ext.refl _ | assumption | refine Ext.alloc ?_ _ | refine Ext.drew ?_ | refine Ext.trans ?_ (by assumption))) q1; have cm := Ext.keep (w' := w1) (by repeat (first | exact Ext.refl _ | assumption | refine Ext.alloc ?_ _ | refine Ext.drew ?_ | refine Ext.trans ?_ (by assumption))) cm))
          go_ret
          have h := HO.out
          rw [hOV.out, HRL.out] at h
          exact ⟨_, rfl, .inl ⟨HF.out, g', c', rfl, (h.ext (show Ext w2 w1 from (by repeat (first | exact Ext.refl _ | assumption | refine Ext.alloc ?_ _ | refine Ext.drew ?_ | refine Ext.trans ?_ (by assumption))))).base (hwz)⟩, (by repeat (first | exact Ext.refl _ | assumption | refine Ext.alloc ?_ _ | refine Ext.drew ?_ | refine Ext.trans ?_ (by assumption)))⟩
    · exact (best_end hW.out HNE.out HK.out (fun j hj => hno.out j (by omega))).elim

set_option maxRecDepth 100000 in
theorem setO_no {rule sz sz2 : Int} {vs ts : List Vt} (h : ¬ (plyB rule sz vs = true ∧ profOk sz2 ts = true ∧ sz2 = sz ∧ (ts.length : Int) = vs.length)) : setO rule sz vs sz2 ts = false := by
  unfold setO
  rw [Bool.eq_false_iff]
  intro e
  simp only [Bool.and_eq_true, decide_eq_true_eq] at e
  exact h ⟨e.1, e.2.1, e.2.2.1, by omega⟩

set_option maxRecDepth 100000 in
theorem prof_rk {sz : Int} {ts : List Vt} (h : profOk sz ts = true) {k : Nat} {y : Vt} (hy : ts[k]? = some y) : rkOk sz y.1 = true := by
  unfold profOk at h
  simp only [Bool.and_eq_true, List.all_eq_true] at h
  have h2 := h.2.2 y (List.mem_of_getElem? hy)
  unfold vtOk at h2
  simp only [Bool.and_eq_true] at h2
  exact h2.1

set_option maxRecDepth 100000 in
set_option maxHeartbeats 8000000 in
theorem set_impl (w : World) (rule sz : Int) (a : Option Addr) (c : Nat) (vs : List Vt) (sz2 : Int) (a2 : Option Addr) (c2 : Nat) (ts : List Vt) (hR : RdV w a vs) (hT : RdV w a2 ts) :
    Calls Tryz.prog 17 #[.int .i64 rule, .agg #[.int .i64 sz, .slice a vs.length c], .agg #[.int .i64 sz2, .slice a2 ts.length c2]] w fun e w' => e = .returned (.bool (setO rule sz vs sz2 ts)) ∧ Ext w w' := by
  have q0 := new0 w (.int .i64 sz) [.slice a vs.length c] 26
  have q1 := new1 w (.int .i64 sz) (.slice a vs.length c) [] 26
  have p0 := new0 (w.alloc (.cells #[.int .i64 sz, .slice a vs.length c] 26)) (.int .i64 sz2) [.slice a2 ts.length c2] 26
  have p1 := new1 (w.alloc (.cells #[.int .i64 sz, .slice a vs.length c] 26)) (.int .i64 sz2) (.slice a2 ts.length c2) [] 26
  have hE1 := Ext.new (w.alloc (.cells #[.int .i64 sz, .slice a vs.length c] 26)) (.cells #[.int .i64 sz2, .slice a2 ts.length c2] 26)
  have q0 := hE1.keep q0
  have q1 := hE1.keep q1
  rw [show (w.alloc (.cells #[.int .i64 sz, .slice a vs.length c] 26)).heap.size = w.heap.size + 1 by simp] at p0 p1
  clear hE1
  have HP : Hid (∀ w', Ext w w' → Calls Tryz.prog 33 #[.int .i64 rule, .agg #[.int .i64 sz, .slice a vs.length c]] w' fun e w'' => e = .returned (.bool (plyB rule sz vs)) ∧ Ext w' w'') := fun w' hw' => ply_impl w' rule sz a c vs (hR.ext hw')
  have HO : Hid (∀ w', Ext w w' → Calls Tryz.prog 25 #[.agg #[.int .i64 sz2, .slice a2 ts.length c2]] w' fun e w'' => e = .returned (.bool (profOk sz2 ts)) ∧ Ext w' w'') := fun w' hw' => prof_impl w' sz2 a2 c2 ts (hT.ext hw')
  by_cases hall : plyB rule sz vs = true ∧ profOk sz2 ts = true ∧ sz2 = sz ∧ (ts.length : Int) = vs.length
  case neg =>
    have HF := hide (setO_no hall)
    cases hp : plyB rule sz vs
    · rw [hp] at HP
      clear hp hall
      go_enter Tryz.func17, Tryz.ntmps17
      go_wp2_with (first | (go_at_call 33; refine (HP.out _ (by repeat (first | exact Ext.refl _ | assumption | refine Ext.alloc ?_ _ | refine Ext.drew ?_ | refine Ext.trans ?_ (by assumption)))).mono ?_; rintro e w1 ⟨rfl, hw1⟩; have q0 := Ext.keep (w' := w1) (by repeat (first | exact Ext.refl _ | assumption | refine Ext.alloc ?_ _ | refine Ext.drew ?_ | refine Ext.trans ?_ (by assumption))) q0; have q1 := Ext.keep (w' := w1) (by repeat (first | exact Ext.refl _ | assumption | refine Ext.alloc ?_ _ | refine Ext.drew ?_ | refine Ext.trans ?_ (by assumption))) q1; have p0 := Ext.keep (w' := w1) (by repeat (first | exact Ext.refl _ | assumption | refine Ext.alloc ?_ _ | refine Ext.drew ?_ | refine Ext.trans ?_ (by assumption))) p0; have p1 := Ext.keep (w' := w1) (by repeat (first | exact Ext.refl _ | assumption | refine Ext.alloc ?_ _ | refine Ext.drew ?_ | refine Ext.trans ?_ (by assumption))) p1) | (go_at_call 25; refine (HO.out _ (by repeat (first | exact Ext.refl _ | assumption | refine Ext.alloc ?_ _ | refine Ext.drew ?_ | refine Ext.trans ?_ (by assumption)))).mono ?_; rintro e w1 ⟨rfl, hw1⟩; have q0 := Ext.keep (w' := w1) (by repeat (first | exact Ext.refl _ | assumption | refine Ext.alloc ?_ _ | refine Ext.drew ?_ | refine Ext.trans ?_ (by assumption))) q0; have q1 := Ext.keep (w' := w1) (by repeat (first | exact Ext.refl _ | assumption | refine Ext.alloc ?_ _ | refine Ext.drew ?_ | refine Ext.trans ?_ (by assumption))) q1; have p0 := Ext.keep (w' := w1) (by repeat (first | exact Ext.refl _ | assumption | refine Ext.alloc ?_ _ | refine Ext.drew ?_ | refine Ext.trans ?_ (by assumption))) p0; have p1 := Ext.keep (w' := w1) (by repeat (first | exact Ext.refl _ | assumption | refine Ext.alloc ?_ _ | refine Ext.drew ?_ | refine Ext.trans ?_ (by assumption))) p1))
      go_ret
      exact ⟨ret_bool HF.out.symm, (by repeat (first | exact Ext.refl _ | assumption | refine Ext.alloc ?_ _ | refine Ext.drew ?_ | refine Ext.trans ?_ (by assumption)))⟩
    cases ho : profOk sz2 ts
    · rw [hp] at HP
      rw [ho] at HO
      clear hp ho hall
      go_enter Tryz.func17, Tryz.ntmps17
      go_wp2_with (first | (go_at_call 33; refine (HP.out _ (by repeat (first | exact Ext.refl _ | assumption | refine Ext.alloc ?_ _ | refine Ext.drew ?_ | refine Ext.trans ?_ (by assumption)))).mono ?_; rintro e w1 ⟨rfl, hw1⟩; have q0 := Ext.keep (w' := w1) (by repeat (first | exact Ext.refl _ | assumption | refine Ext.alloc ?_ _ | refine Ext.drew ?_ | refine Ext.trans ?_ (by assumption))) q0; have q1 := Ext.keep (w' := w1) (by repeat (first | exact Ext.refl _ | assumption | refine Ext.alloc ?_ _ | refine Ext.drew ?_ | refine Ext.trans ?_ (by assumption))) q1; have p0 := Ext.keep (w' := w1) (by repeat (first | exact Ext.refl _ | assumption | refine Ext.alloc ?_ _ | refine Ext.drew ?_ | refine Ext.trans ?_ (by assumption))) p0; have p1 := Ext.keep (w' := w1) (by repeat (first | exact Ext.refl _ | assumption | refine Ext.alloc ?_ _ | refine Ext.drew ?_ | refine Ext.trans ?_ (by assumption))) p1) | (go_at_call 25; refine (HO.out _ (by repeat (first | exact Ext.refl _ | assumption | refine Ext.alloc ?_ _ | refine Ext.drew ?_ | refine Ext.trans ?_ (by assumption)))).mono ?_; rintro e w1 ⟨rfl, hw1⟩; have q0 := Ext.keep (w' := w1) (by repeat (first | exact Ext.refl _ | assumption | refine Ext.alloc ?_ _ | refine Ext.drew ?_ | refine Ext.trans ?_ (by assumption))) q0; have q1 := Ext.keep (w' := w1) (by repeat (first | exact Ext.refl _ | assumption | refine Ext.alloc ?_ _ | refine Ext.drew ?_ | refine Ext.trans ?_ (by assumption))) q1; have p0 := Ext.keep (w' := w1) (by repeat (first | exact Ext.refl _ | assumption | refine Ext.alloc ?_ _ | refine Ext.drew ?_ | refine Ext.trans ?_ (by assumption))) p0; have p1 := Ext.keep (w' := w1) (by repeat (first | exact Ext.refl _ | assumption | refine Ext.alloc ?_ _ | refine Ext.drew ?_ | refine Ext.trans ?_ (by assumption))) p1))
      go_ret
      exact ⟨ret_bool HF.out.symm, (by repeat (first | exact Ext.refl _ | assumption | refine Ext.alloc ?_ _ | refine Ext.drew ?_ | refine Ext.trans ?_ (by assumption)))⟩
    have hne : ¬ (sz2 = sz ∧ (ts.length : Int) = vs.length) := fun h => hall ⟨hp, ho, h⟩
    rw [hp] at HP
    rw [ho] at HO
    clear hp ho hall
    by_cases hs : sz2 = sz
    · have hl : ¬ ((ts.length : Int) = vs.length) := fun h => hne ⟨hs, h⟩
      subst hs
      clear hne
      go_enter Tryz.func17, Tryz.ntmps17
      go_wp2_with (first | (go_at_call 33; refine (HP.out _ (by repeat (first | exact Ext.refl _ | assumption | refine Ext.alloc ?_ _ | refine Ext.drew ?_ | refine Ext.trans ?_ (by assumption)))).mono ?_; rintro e w1 ⟨rfl, hw1⟩; have q0 := Ext.keep (w' := w1) (by repeat (first | exact Ext.refl _ | assumption | refine Ext.alloc ?_ _ | refine Ext.drew ?_ | refine Ext.trans ?_ (by assumption))) q0; have q1 := Ext.keep (w' := w1) (by repeat (first | exact Ext.refl _ | assumption | refine Ext.alloc ?_ _ | refine Ext.drew ?_ | refine Ext.trans ?_ (by assumption))) q1; have p0 := Ext.keep (w' := w1) (by repeat (first | exact Ext.refl _ | assumption | refine Ext.alloc ?_ _ | refine Ext.drew ?_ | refine Ext.trans ?_ (by assumption))) p0; have p1 := Ext.keep (w' := w1) (by repeat (first | exact Ext.refl _ | assumption | refine Ext.alloc ?_ _ | refine Ext.drew ?_ | refine Ext.trans ?_ (by assumption))) p1) | (go_at_call 25; refine (HO.out _ (by repeat (first | exact Ext.refl _ | assumption | refine Ext.alloc ?_ _ | refine Ext.drew ?_ | refine Ext.trans ?_ (by assumption)))).mono ?_; rintro e w1 ⟨rfl, hw1⟩; have q0 := Ext.keep (w' := w1) (by repeat (first | exact Ext.refl _ | assumption | refine Ext.alloc ?_ _ | refine Ext.drew ?_ | refine Ext.trans ?_ (by assumption))) q0; have q1 := Ext.keep (w' := w1) (by repeat (first | exact Ext.refl _ | assumption | refine Ext.alloc ?_ _ | refine Ext.drew ?_ | refine Ext.trans ?_ (by assumption))) q1; have p0 := Ext.keep (w' := w1) (by repeat (first | exact Ext.refl _ | assumption | refine Ext.alloc ?_ _ | refine Ext.drew ?_ | refine Ext.trans ?_ (by assumption))) p0; have p1 := Ext.keep (w' := w1) (by repeat (first | exact Ext.refl _ | assumption | refine Ext.alloc ?_ _ | refine Ext.drew ?_ | refine Ext.trans ?_ (by assumption))) p1))
      go_ret
      exact ⟨ret_bool HF.out.symm, (by repeat (first | exact Ext.refl _ | assumption | refine Ext.alloc ?_ _ | refine Ext.drew ?_ | refine Ext.trans ?_ (by assumption)))⟩
    · clear hne
      go_enter Tryz.func17, Tryz.ntmps17
      go_wp2_with (first | (go_at_call 33; refine (HP.out _ (by repeat (first | exact Ext.refl _ | assumption | refine Ext.alloc ?_ _ | refine Ext.drew ?_ | refine Ext.trans ?_ (by assumption)))).mono ?_; rintro e w1 ⟨rfl, hw1⟩; have q0 := Ext.keep (w' := w1) (by repeat (first | exact Ext.refl _ | assumption | refine Ext.alloc ?_ _ | refine Ext.drew ?_ | refine Ext.trans ?_ (by assumption))) q0; have q1 := Ext.keep (w' := w1) (by repeat (first | exact Ext.refl _ | assumption | refine Ext.alloc ?_ _ | refine Ext.drew ?_ | refine Ext.trans ?_ (by assumption))) q1; have p0 := Ext.keep (w' := w1) (by repeat (first | exact Ext.refl _ | assumption | refine Ext.alloc ?_ _ | refine Ext.drew ?_ | refine Ext.trans ?_ (by assumption))) p0; have p1 := Ext.keep (w' := w1) (by repeat (first | exact Ext.refl _ | assumption | refine Ext.alloc ?_ _ | refine Ext.drew ?_ | refine Ext.trans ?_ (by assumption))) p1) | (go_at_call 25; refine (HO.out _ (by repeat (first | exact Ext.refl _ | assumption | refine Ext.alloc ?_ _ | refine Ext.drew ?_ | refine Ext.trans ?_ (by assumption)))).mono ?_; rintro e w1 ⟨rfl, hw1⟩; have q0 := Ext.keep (w' := w1) (by repeat (first | exact Ext.refl _ | assumption | refine Ext.alloc ?_ _ | refine Ext.drew ?_ | refine Ext.trans ?_ (by assumption))) q0; have q1 := Ext.keep (w' := w1) (by repeat (first | exact Ext.refl _ | assumption | refine Ext.alloc ?_ _ | refine Ext.drew ?_ | refine Ext.trans ?_ (by assumption))) q1; have p0 := Ext.keep (w' := w1) (by repeat (first | exact Ext.refl _ | assumption | refine Ext.alloc ?_ _ | refine Ext.drew ?_ | refine Ext.trans ?_ (by assumption))) p0; have p1 := Ext.keep (w' := w1) (by repeat (first | exact Ext.refl _ | assumption | refine Ext.alloc ?_ _ | refine Ext.drew ?_ | refine Ext.trans ?_ (by assumption))) p1))
      go_ret
      exact ⟨ret_bool HF.out.symm, (by repeat (first | exact Ext.refl _ | assumption | refine Ext.alloc ?_ _ | refine Ext.drew ?_ | refine Ext.trans ?_ (by assumption)))⟩
  case pos =>
    obtain ⟨hp, ho, rfl, hl⟩ := hall
    obtain ⟨h0, h4, r1, r2⟩ := ply_ok hp
    have hsz := prof_size h0
    obtain ⟨n, rfl⟩ : ∃ n : Nat, sz2 = n := ⟨sz2.toNat, by omega⟩
    have HB : Hid (∀ (w' : World) (k : Nat) (ar : Option Addr) (cr : Nat) (x y : Vt), Ext w w' → vs[k]? = some x → ts[k]? = some y → RdI w' ar y.1 → Calls Tryz.prog 34 #[.int .i64 rule, .agg #[.int .i64 n, .slice a vs.length c], .int .i64 k, .slice ar y.1.length cr] w' fun e w'' => ∃ v, e = .returned v ∧ ((betB rule n vs k y.1 = true ∧ ∃ g c' l, v = .slice (some ⟨g, 0, none⟩) l c') ∨ (betB rule n vs k y.1 = false ∧ v = .slice none 0 0)) ∧ Ext w' w'') := fun w' k ar cr x y hw' hx hy hRy => by
      have hvk := prof_rk ho hy
      refine (bet_impl w' rule n a ar c cr k vs x y.1 hx (hR.ext hw') hRy hvk h0 r1 r2).mono ?_
      rintro e w'' ⟨v, rfl, h, hw''⟩
      refine ⟨v, rfl, ?_, hw''⟩
      rcases h with ⟨h1, g, c', h2, _⟩ | h
      · exact .inl ⟨h1, g, c', _, h2⟩
      · exact .inr h
    have HV : Hid (setO rule n vs n ts = allN ts.length (fun k => !betB rule n vs k (ts.getD k ([], 0)).1)) := hide (by
      unfold setO
      rw [hp, ho, show decide (ts.length = vs.length) = true by simp; omega]
      simp)
    have HL := hide hl
    rw [hp] at HP
    rw [ho] at HO
    have htl := (prof_small ho).1
    clear hp ho h0 r1 r2
    have hne : ∀ (W : World) (a : Addr) (n c : Nat), (binOp .neq 28 (.slice (some a) n c) (.slice none 0 0)).run Tryz.prog W = .ok (.bool true) W := fun W a n c => run_neq_some W a n c Tryz.underlying28
    have hnn : ∀ (W : World), (binOp .neq 28 (.slice none 0 0) (.slice none 0 0)).run Tryz.prog W = .ok (.bool false) W := fun W => run_neq_none W 0 0 Tryz.underlying28
    go_enter Tryz.func17, Tryz.ntmps17
    go_wp2_with (first | (go_at_call 33; refine (HP.out _ (by repeat (first | exact Ext.refl _ | assumption | refine Ext.alloc ?_ _ | refine Ext.drew ?_ | refine Ext.trans ?_ (by assumption)))).mono ?_; rintro e w1 ⟨rfl, hw1⟩; have q0 := Ext.keep (w' := w1) (by repeat (first | exact Ext.refl _ | assumption | refine Ext.alloc ?_ _ | refine Ext.drew ?_ | refine Ext.trans ?_ (by assumption))) q0; have q1 := Ext.keep (w' := w1) (by repeat (first | exact Ext.refl _ | assumption | refine Ext.alloc ?_ _ | refine Ext.drew ?_ | refine Ext.trans ?_ (by assumption))) q1; have p0 := Ext.keep (w' := w1) (by repeat (first | exact Ext.refl _ | assumption | refine Ext.alloc ?_ _ | refine Ext.drew ?_ | refine Ext.trans ?_ (by assumption))) p0; have p1 := Ext.keep (w' := w1) (by repeat (first | exact Ext.refl _ | assumption | refine Ext.alloc ?_ _ | refine Ext.drew ?_ | refine Ext.trans ?_ (by assumption))) p1) | (go_at_call 25; refine (HO.out _ (by repeat (first | exact Ext.refl _ | assumption | refine Ext.alloc ?_ _ | refine Ext.drew ?_ | refine Ext.trans ?_ (by assumption)))).mono ?_; rintro e w1 ⟨rfl, hw1⟩; have q0 := Ext.keep (w' := w1) (by repeat (first | exact Ext.refl _ | assumption | refine Ext.alloc ?_ _ | refine Ext.drew ?_ | refine Ext.trans ?_ (by assumption))) q0; have q1 := Ext.keep (w' := w1) (by repeat (first | exact Ext.refl _ | assumption | refine Ext.alloc ?_ _ | refine Ext.drew ?_ | refine Ext.trans ?_ (by assumption))) q1; have p0 := Ext.keep (w' := w1) (by repeat (first | exact Ext.refl _ | assumption | refine Ext.alloc ?_ _ | refine Ext.drew ?_ | refine Ext.trans ?_ (by assumption))) p0; have p1 := Ext.keep (w' := w1) (by repeat (first | exact Ext.refl _ | assumption | refine Ext.alloc ?_ _ | refine Ext.drew ?_ | refine Ext.trans ?_ (by assumption))) p1))
    clear HP HO
    have hw : Ext w w1 := (by repeat (first | exact Ext.refl _ | assumption | refine Ext.alloc ?_ _ | refine Ext.drew ?_ | refine Ext.trans ?_ (by assumption)))
    obtain ⟨wb, hwb⟩ : ∃ wb : World, wb = w1 := ⟨_, rfl⟩
    subst hwb
    go_loopw [7, 8, 37] (fun _ _ i wr => ∃ m : Nat, m ≤ ts.length ∧ i = .int .i64 m ∧ Hid (allN m (fun k => !betB rule n vs k (ts.getD k ([], 0)).1) = true) ∧ Ext wb wr) (fun _ _ i _ => ts.length - (intOf i).toNat)
    case atStart => exact ⟨0, Nat.zero_le _, rfl, hide (by simp [allN]), Ext.refl _⟩
    case round =>
      obtain ⟨m, hm, rfl, hall, hwr⟩ := hrel
      have q0 := hwr.keep q0
      have q1 := hwr.keep q1
      by_cases hmt : m < ts.length
      · obtain ⟨y, hy⟩ := at_of_lt hmt
        obtain ⟨x, hx⟩ := at_of_lt (xs := vs) (k := m) (by have := HL.out; omega)
        have HS := hide (allN_succ m (fun k => !betB rule n vs k (ts.getD k ([], 0)).1))
        have HG : Hid (ts.getD m ([], 0) = y) := hide (by simp [List.getD, hy])
        obtain ⟨b, off, a', c', rfl, c0, c1, hc', hRx⟩ := (hT.ext (hw.trans hwr)).at_ hy
        have e0 := new0 wr (.slice a' y.1.length c') [.int .i64 y.2] 30
        have e1 := new1 wr (.slice a' y.1.length c') (.int .i64 y.2) [] 30
        have hE2 := Ext.new wr (.cells #[.slice a' y.1.length c', .int .i64 y.2] 30)
        have HBC := hide (HB.out (wr.alloc (.cells #[.slice a' y.1.length c', .int .i64 y.2] 30)) m a' c' x y (hw.trans (hwr.trans hE2)) hx hy (hRx.ext hE2))
        have HXE : Hid (Ext w wr) := hide (hw.trans hwr)
        have hm1 : m + 1 ≤ ts.length := by omega
        clear hx hy hE2
        go_wp2_with fail
        refine HBC.out.mono ?_
        rintro e w4 ⟨v, rfl, h, hw4⟩
        rcases h with ⟨h1, g, c4, l, rfl⟩ | ⟨h1, rfl⟩
        · have HF : Hid (allN ts.length (fun k => !betB rule n vs k (ts.getD k ([], 0)).1) = false) := hide (by
            rw [Bool.eq_false_iff]
            intro h
            have := allN_iff.1 h m hmt
            rw [HG.out, h1] at this
            cases this)
          clear h1
          go_wp2
          go_ret
          exact ⟨ret_bool (by rw [HV.out, HF.out]), HXE.out.trans (by repeat (first | exact Ext.refl _ | assumption | refine Ext.alloc ?_ _ | refine Ext.drew ?_ | refine Ext.trans ?_ (by assumption)))⟩
        · have HN : Hid (allN (m + 1) (fun k => !betB rule n vs k (ts.getD k ([], 0)).1) = true) := hide (by rw [HS.out, hall.out, HG.out, h1]; rfl)
          clear h1
          go_wp2
          exact ⟨⟨m + 1, hm1, by go_num, HN, (by repeat (first | exact Ext.refl _ | assumption | refine Ext.alloc ?_ _ | refine Ext.drew ?_ | refine Ext.trans ?_ (by assumption)))⟩, by simp [intOf]; omega⟩
      · have hmn : m = ts.length := by omega
        go_wp2
        go_ret
        exact ⟨ret_bool (by rw [HV.out, ← hmn, hall.out]), hw.trans hwr⟩

open Go.RowKit

end Go.Proofs.YtfmeklgdaabooaaGreatDoor
