/- Rankings that are turned round or left by a candidate, of the program and of the spec. Profiles that are copied, turned round, or left by a candidate. A vote that is replaced: WithRanking of the program. A vote in which the winner is raised and with which it no longer wins, of the program and of the spec. -/
import Derived.Test.YtilcdnkkabmbfaaGreatCk20
import Derived.Test.YtilcdnkkabmbfaaGreatCk19
namespace Go.Proofs.YtilcdnkkabmbfaaGreat
open Go.RowKit

set_option maxRecDepth 100000 in
set_option maxHeartbeats 2000000 in
theorem rev_impl (w : World) (a : Option Addr) (c n : Nat) (xs : List Int) (hxn : xs.length = n) (n1 : 1 ≤ n) (n5 : n ≤ 5) (hR : RdI w a xs) :
    Calls Tryz.prog 125 #[.slice a n c] w fun e w' => ∃ v, e = .returned v ∧ OwnI w' w.heap.size v xs.reverse ∧ Ext w w' := by
  have HXN := hide hxn
  have HC : Hid (∀ w', Ext w w' → Calls Tryz.prog 118 #[.slice a n c] w' fun e w'' => ∃ v, e = .returned v ∧ OwnI w'' w'.heap.size v xs ∧ Ext w' w'') := fun w' hw' => by
    have h := cln_impl w' a c xs (hR.ext hw') (by omega)
    rw [hxn] at h
    exact h
  clear hxn
  go_enter Tryz.func125, Tryz.ntmps125
  go_wp2_with fail
  refine (HC.out _ (Ext.refl _)).mono ?_
  rintro e w2 ⟨v, rfl, hv, hw2⟩
  obtain ⟨g, c2, rfl⟩ := hv.some (by rw [HXN.out]; omega)
  obtain ⟨hS, _, hnc, hcm, hg, hB⟩ := hv.shp
  rw [HXN.out] at hB hnc ⊢
  have HR := hide (rvs_impl w2 g n c2 (fun j => xs.getD j 0) n1 (by omega) hB hnc)
  have HS := hide hS
  clear hv hB hS HC
  go_wp2_with fail
  refine HR.out.mono ?_
  rintro e w3 ⟨rfl, hB3, hO3, hS3⟩
  have hsh := hS3 _ HS.out
  have HB := hide hB3
  clear hB3 hS3 HR
  go_wp2
  go_ret
  refine ⟨_, rfl, Shp.own hsh HB.out (by rw [List.length_reverse, HXN.out]) (fun j x hx => ?_) hg hnc hcm, Only.ext hw2 hO3 hg⟩
  have hj := lt_of_at hx
  rw [List.length_reverse, HXN.out] at hj
  rw [List.getElem?_reverse (by rw [HXN.out]; exact hj), HXN.out] at hx
  simp [List.getD, hx]

set_option maxRecDepth 100000 in
set_option maxHeartbeats 8000000 in
theorem clone_impl (w : World) (sz : Int) (a : Option Addr) (c : Nat) (vs : List Vt) (hR : RdV w a vs) (h0 : profOk sz vs = true) :
    Calls Tryz.prog 121 #[.agg #[.int .i64 sz, .slice a vs.length c]] w fun e w' => ∃ v es, e = .returned (.agg #[.int .i64 (sz), v]) ∧ LstV w' w.heap.size v es ∧ vtsOf es = vs.map (fun x => ((fun r => r) x.1, x.2)) ∧ Ext w w' := by
  have hvl := (prof_small h0).1
  have q0 := new0 w (.int .i64 sz) [.slice a vs.length c] 29
  have q1 := new1 w (.int .i64 sz) (.slice a vs.length c) [] 29
  obtain ⟨F, hF⟩ : ∃ F : List Int → List Int, F = (fun r => r) := ⟨_, rfl⟩
  rw [← hF]
  have hs0 : (w.alloc (.cells #[.int .i64 sz, .slice a vs.length c] 29)).heap.size = w.heap.size + 1 := by simp
  have hE1 := Ext.new w (.cells #[.int .i64 sz, .slice a vs.length c] 29)
  have p0 := BlkF.new (w.alloc (.cells #[.int .i64 sz, .slice a vs.length c] 29)) #[.int .i64 0, .slice none 0 0] 29
  have hE2 := Ext.new (w.alloc (.cells #[.int .i64 sz, .slice a vs.length c] 29)) (.cells #[.int .i64 0, .slice none 0 0] 29)
  have hs1 : ((w.alloc (.cells #[.int .i64 sz, .slice a vs.length c] 29)).alloc (.cells #[.int .i64 0, .slice none 0 0] 29)).heap.size = w.heap.size + 2 := by simp
  rw [hs0] at p0
  have HF : Hid (∀ (x : Vt) (a' : Option Addr) (c' : Nat) (w' : World), x ∈ vs → Ext w w' → RdI w' a' x.1 → x.1.length ≤ c' → Calls Tryz.prog 118 #[.slice a' x.1.length c'] w' fun e w'' => ∃ u, e = .returned u ∧ OwnI w'' w'.heap.size u (F x.1) ∧ Ext w' w'') := fun x a' c' w' hx hw' hRx hc' => by
    rw [hF]
    exact cln_impl w' a' c' x.1 hRx (by have := (rk_len ((prof_small h0).2 x hx).1).2; omega)
  clear hF
  go_enter Tryz.func121, Tryz.ntmps121
  go_wp2_with fail
  generalize w.alloc (.cells #[.int .i64 sz, .slice a vs.length c] 29) = wA at hE1 hE2 hs0 hs1 p0 q0 q1 ⊢
  have hw : Ext w (wA.alloc (.cells #[.int .i64 0, .slice none 0 0] 29)) := hE1.trans hE2
  generalize wA.alloc (.cells #[.int .i64 0, .slice none 0 0] 29) = wb at hE2 hs1 p0 hw ⊢
  have P1 := hide p0
  have hszw : w.heap.size + 1 < wb.heap.size := by omega
  clear p0
  have hB := (BlkF.new wb #[.int .i64 (sz), .slice none 0 0] 29).congr (f' := boxF (sz) (.slice none 0 0)) (fun o ho => by
    match o, ho with
    | 0, _ => rfl
    | 1, _ => rfl)
  have hE0 := Ext.new wb (.cells #[.int .i64 (sz), .slice none 0 0] 29)
  have hlt := hB.lt
  obtain ⟨g, hg⟩ : ∃ g : Nat, g = wb.heap.size := ⟨_, rfl⟩
  generalize wb.alloc (.cells #[.int .i64 (sz), .slice none 0 0] 29) = W0 at hB hE0 hlt ⊢
  obtain ⟨H, hH⟩ : ∃ H : Nat, H = W0.heap.size := ⟨_, rfl⟩
  rw [← hg] at hB hlt
  rw [← hH] at hlt
  first | rw [← hg] | rw [← hs1, ← hg]
  have hgw : w.heap.size ≤ g := by rw [hg]; exact hw.size
  have hHs : H ≤ W0.heap.size := by omega
  have hgb : wb.heap.size ≤ g := by omega
  have hg8 : w.heap.size + 1 < g := by omega
  have hB := hB.congr (f' := boxF (sz) (.slice none 0 0)) (fun _ _ => rfl)
  clear hH hg hszw hs1 hs0

  go_loopw [5, 12] (fun _ i wr => ∃ (k : Nat) (v : Value) (es : List (RowE × Int)), k ≤ vs.length ∧ i = .int .i64 k ∧ BlkF wr g 2 (boxF (sz) v) ∧ LstV wr H v es ∧ Hid (vtsOf es = (vs.take k).map (fun x => (F x.1, x.2))) ∧ H ≤ wr.heap.size ∧ Ext wb wr) (fun _ i _ => vs.length - (intOf i).toNat)
  case atStart => exact ⟨0, _, [], Nat.zero_le _, rfl, hB, LstV.nil _ _, rfl, hHs, hE0⟩
  case round =>
    clear hB hE0 hHs
    obtain ⟨k, v, es, hk, rfl, hB, hl, hmap, hHs, hwr⟩ := hrel
    have b0 := hB.cell 0 (by omega)
    have b1 := hB.cell 1 (by omega)
    have hb0 : boxF (sz) v 0 = .int .i64 (sz) := rfl
    have hb1 : boxF (sz) v 1 = v := rfl
    rw [hb0] at b0
    rw [hb1] at b1
    by_cases hkt : k < vs.length
    · obtain ⟨x, hx⟩ := at_of_lt hkt
      obtain ⟨b, off, a', c', rfl, c0, c1, hc', hRx⟩ := (hR.ext (hw.trans hwr)).at_ hx
      have hel : es.length ≤ 24 := by
        have h1 := congrArg List.length hmap.out
        unfold vtsOf at h1
        rw [List.length_map, List.length_map, List.length_take] at h1
        omega
      have HC := hide (fun w' (hw' : Ext wr w') => HF.out x a' c' w' (List.mem_of_getElem? hx) ((hw.trans hwr).trans hw') (hRx.ext hw') hc')
      have HN : Hid (∀ (u : RowE), u.xs = F x.1 → vtsOf (es ++ [(u, x.2)]) = (vs.take (k + 1)).map (fun x => (F x.1, x.2))) := fun u hu => by
        rw [take_at hx, List.map_append, ← hmap.out]
        simp [vtsOf, hu]
      have HL := hide hl
      have HB := hide hB
      clear hx hl hB hb0 hb1 hRx
      go_wp2
      refine wp_region_P [0,1,2,3,5,6,4,7,8,9,10,11] (by kernel_rfl) rfl (by kernel_rfl) ?_
      repeat' (refine wpP_stepQ rfl (fun K hK => ?_)
               go_simp
               try (rw [if_neg (by intro h; simp [undef] at h)])
               try split
               all_goals
                 first
                 | (refine hK _ ?_
                    clear hK K)
                 | (apply Exists.intro
                    refine ⟨fun wq hwq => ?_, hK _ ?_⟩
                    · have hcq := hwq.cellS
                      go_simp
                      first
                      | exact ⟨Ext.refl _, rfl⟩
                    clear hK K))
      refine wpP_stepS rfl (by kernel_rfl) (fun K hK wq hwq => ?_)
      go_simp
      refine (HC.out _ (by repeat (first | exact Ext.refl _ | assumption | refine Ext.alloc ?_ _ | refine Ext.drew ?_ | refine Ext.trans ?_ (by assumption)))).mono ?_
      rintro e w3 ⟨u, rfl, hu, hw3⟩
      refine ⟨hw3, hK _ _ ?_⟩
      clear hK K
      obtain ⟨a5, n5, c5, rfl⟩ := hu.form
      have hEy : Ext wr wq := (by repeat (first | exact Ext.refl _ | assumption | refine Ext.alloc ?_ _ | refine Ext.drew ?_ | refine Ext.trans ?_ (by assumption)))
      obtain ⟨wy, hwy⟩ : ∃ wy : World, wy = wq := ⟨_, rfl⟩
      subst hwy
      repeat' (refine wpP_stepQ rfl (fun K hK => ?_)
               go_simp
               try (rw [if_neg (by intro h; simp [undef] at h)])
               try split
               all_goals
                 first
                 | (refine hK _ ?_
                    clear hK K)
                 | (apply Exists.intro
                    refine ⟨fun wq hwq => ?_, hK _ ?_⟩
                    · have hcq := hwq.cellS
                      go_simp
                      first
                      | exact ⟨Ext.refl _, rfl⟩
                    clear hK K))
      refine wpP_stepS rfl (by kernel_rfl) (fun K hK wq hwq => ?_)
      go_simp
      refine ⟨(by repeat (first | exact Ext.refl _ | assumption | refine Ext.alloc ?_ _ | refine Ext.drew ?_ | refine Ext.trans ?_ (by assumption))), hK _ _ ?_⟩
      clear hK K
      refine wpP_stepC rfl (by kernel_rfl) (fun K hK' wa hwa => ?_)
      refine Eq.mpr (if_pos rfl) ?_
      have hEa : Ext wr wa := (by repeat (first | exact Ext.refl _ | assumption | refine Ext.alloc ?_ _ | refine Ext.drew ?_ | refine Ext.trans ?_ (by assumption)))
      have hLa := HL.out.ext hEa
      refine oper_appV H wa _ _ rfl v es (⟨a5, n5, c5, F x.1⟩, x.2) _ rfl hLa.1 (Nat.le_trans hHs hEa.size) rfl (hwa.keep (new0 wq _ _ _)) (hwa.keep (new1 wq _ _ _ _)) (by omega) ?_
      intro v' w4 hown4 hg4 hf4
      have hro : ∀ b, v.ownBlock = some b → H ≤ b := fun b hb => (World.ownsRow.lt HL.out.1 b hb).1
      have hB4 := (HB.out.ext hEa).grown hg4 (fun b hb => by have := hro b hb; omega)
      have hE4 : Ext wb w4 := Ext.grown (hwr.trans hEa) hg4 (fun b hb => by have := hro b hb; omega)
      have hL4 := HL.out.push (u := ⟨a5, n5, c5, F x.1⟩) (k := x.2) hHs hEy hu ((hwq.alloc _).trans hwa) hEa hown4 hg4
      have z1 := hB4.fr 1
      have d1 := hB4.cell 1 (by omega)
      rw [show boxF (sz) v 1 = v from rfl] at d1
      have hsz4 := Nat.le_trans hHs (Nat.le_trans hEa.size hg4.size)
      obtain ⟨av, nv, cv, rfl⟩ : ∃ av nv cv, v' = .slice av nv cv := by
        rcases hL4.1.val with ⟨h, _⟩ | ⟨g9, c9, h, _⟩
        · exact ⟨_, _, _, h⟩
        · exact ⟨_, _, _, h⟩
      have HL4 := hide hL4
      have HB4 := hide hB4
      clear hLa hro hown4 hg4 hf4 hL4 hB4 hEa hu hwa hwq hw3 b0 b1 c0 c1
      refine hK' _ _ ?_
      clear hK' K
      repeat' (refine wpP_stepQ rfl (fun K hK => ?_)
               go_simp
               try (rw [if_neg (by intro h; simp [undef] at h)])
               try split
               all_goals
                 first
                 | (refine hK _ ?_
                    clear hK K)
                 | (apply Exists.intro
                    refine ⟨fun wq hwq => ?_, hK _ ?_⟩
                    · have hcq := hwq.cellS
                      go_simp
                      first
                      | exact ⟨Ext.refl _, rfl⟩
                    clear hK K))
      refine wpP_stepL rfl (by kernel_rfl) (by kernel_rfl) (by kernel_rfl) (fun K hK wz hwz => ?_)
      have hcz := hwz.cellS
      have hfz := hwz.frozenS
      go_simp
      refine hK _ _ ?_
      clear hK K
      go_wp2
      have hOg : Only g wz (wz.setCell ⟨g, 1, none⟩ (.slice av nv cv)) := (Only.refl g wz).setCell 1 _
      refine ⟨⟨k + 1, .slice av nv cv, es ++ [(⟨a5, n5, c5, F x.1⟩, x.2)], by omega, by go_num, ?_, (HL4.out.ext hwz).only hlt hOg, HN.out _ rfl, ?_, Only.ext (hE4.trans hwz) hOg hgb⟩, by simp [intOf]; omega⟩
      · refine ((HB4.out.ext hwz).set 1 (by omega) _).congr (fun o ho => ?_)
        match o, ho with
        | 0, _ => rfl
        | 1, _ => rfl
      · exact Nat.le_trans hsz4 (Nat.le_trans hwz.size hOg.size)
    · have HM : Hid (vtsOf es = vs.map (fun x => (F x.1, x.2))) := hide (by rw [hmap.out, List.take_of_length_le (by omega)])
      have HL := hide hl
      have p1 := P1.out.ext hwr
      have r0 := p1.cell 0 (by simp)
      have r1 := p1.cell 1 (by simp)
      have z0 := p1.fr 0
      have z1 := p1.fr 1
      obtain ⟨av, nv, cv, rfl⟩ : ∃ av nv cv, v = .slice av nv cv := by
        rcases hl.1.val with ⟨h, _⟩ | ⟨g9, c9, h, _⟩
        · exact ⟨_, _, _, h⟩
        · exact ⟨_, _, _, h⟩
      have hww := hw.trans hwr
      have hp8 : w.heap.size + 1 < H := by omega
      clear hl hB p1 hmap hb0 hb1
      go_wp2
      have hO1 : Only (w.heap.size + 1) wr ((wr.setCell ⟨w.heap.size + 1, 0, none⟩ (.int .i64 (sz))).setCell ⟨w.heap.size + 1, 1, none⟩ (.slice av nv cv)) := ((Only.refl _ wr).setCell 0 _).setCell 1 _
      refine bodyPost_ret (v := .agg #[.int .i64 (sz), .slice av nv cv]) (by simp [results, Tryz.results121, go_sem, r0, r1]) rfl ⟨_, es, rfl, (HL.out.only hp8 hO1).base (by omega), HM.out, Only.ext hww hO1 (by omega)⟩

set_option maxRecDepth 100000 in
set_option maxHeartbeats 2000000 in
theorem revP_impl (w : World) (sz : Int) (a : Option Addr) (c : Nat) (vs : List Vt) (hR : RdV w a vs) (h0 : profOk sz vs = true) :
    Calls Tryz.prog 65 #[.agg #[.int .i64 sz, .slice a vs.length c]] w fun e w' => ∃ v es, e = .returned (.tuple #[.agg #[.int .i64 sz, v], .bool true]) ∧ LstV w' w.heap.size v es ∧ vtsOf es = vs.map (fun x => (x.1.reverse, x.2)) ∧ Ext w w' := by
  have hsz := prof_size h0
  have HC : Hid (∀ w', Ext w w' → Calls Tryz.prog 54 #[.agg #[.int .i64 sz, .slice a vs.length c], .int .i64 sz, .func (.func 124) #[] #[]] w' fun e w'' => ∃ v es, e = .returned (.tuple #[.agg #[.int .i64 sz, v], .bool true]) ∧ LstV w'' w'.heap.size v es ∧ vtsOf es = vs.map (fun x => (x.1.reverse, x.2)) ∧ Ext w' w'') := fun w' hw' =>
    chg_impl 124 #[] #[] List.reverse w' sz sz a c vs (hR.ext hw') h0 Tryz.call124 (fun x a' c' w2 hx hw2 hRx hc' => by
      have hl := (rk_len ((prof_small h0).2 x hx).1)
      have H := hide (fun w3 (hw3 : Ext w2 w3) => rev_impl w3 a' c' x.1.length x.1 rfl (by omega) hl.2 (hRx.ext hw3))
      clear hl hRx
      show Calls Tryz.prog 124 #[.slice a' x.1.length c'] w2 _
      go_enter Tryz.func124, Tryz.ntmps124
      go_wp2_with fail
      refine (H.out _ (Ext.refl _)).mono ?_
      rintro e w1 ⟨u, rfl, hu, hw1⟩
      go_wp2
      go_ret
      exact ⟨_, rfl, hu, hw1⟩)
  have q0 := new0 w (.int .i64 sz) [.slice a vs.length c] 29
  have q1 := new1 w (.int .i64 sz) (.slice a vs.length c) [] 29
  have hE1 := Ext.new w (.cells #[.int .i64 sz, .slice a vs.length c] 29)
  have hs0 : (w.alloc (.cells #[.int .i64 sz, .slice a vs.length c] 29)).heap.size = w.heap.size + 1 := by simp
  have p0 := BlkF.new (w.alloc (.cells #[.int .i64 sz, .slice a vs.length c] 29)) #[.int .i64 0, .slice none 0 0] 29
  have hE2 := Ext.new (w.alloc (.cells #[.int .i64 sz, .slice a vs.length c] 29)) (.cells #[.int .i64 0, .slice none 0 0] 29)
  have hs1 : ((w.alloc (.cells #[.int .i64 sz, .slice a vs.length c] 29)).alloc (.cells #[.int .i64 0, .slice none 0 0] 29)).heap.size = w.heap.size + 2 := by simp
  rw [hs0] at p0
  clear h0
  go_enter Tryz.func65, Tryz.ntmps65
  go_wp2_with fail
  generalize w.alloc (.cells #[.int .i64 sz, .slice a vs.length c] 29) = wA at hE1 hE2 hs0 hs1 p0 q0 q1 ⊢
  have hw : Ext w (wA.alloc (.cells #[.int .i64 0, .slice none 0 0] 29)) := hE1.trans hE2
  generalize wA.alloc (.cells #[.int .i64 0, .slice none 0 0] 29) = wb at hE2 hs1 p0 hw ⊢
  refine (HC.out _ hw).mono ?_
  rintro e w1 ⟨v, es, rfl, hl, hm, hw1⟩
  have p1 := p0.ext hw1
  have r0 := p1.cell 0 (by simp)
  have r1 := p1.cell 1 (by simp)
  have z0 := p1.fr 0
  have z1 := p1.fr 1
  obtain ⟨av, cv, rfl, _⟩ := hl.form
  have HL := hide hl
  have HM := hide hm
  clear hl hm p1 p0 HC
  go_wp2
  have hO1 : Only (w.heap.size + 1) w1 ((w1.setCell ⟨w.heap.size + 1, 0, none⟩ (.int .i64 sz)).setCell ⟨w.heap.size + 1, 1, none⟩ (.slice av es.length cv)) := ((Only.refl _ w1).setCell 0 _).setCell 1 _
  refine bodyPost_ret (v := .tuple #[.agg #[.int .i64 sz, .slice av es.length cv], .bool true]) (by simp [results, Tryz.results65, go_sem, r0, r1]) rfl ⟨_, es, rfl, (HL.out.only (by omega) hO1).base (by omega), HM.out, Only.ext (hw.trans hw1) hO1 (by omega)⟩

set_option maxRecDepth 100000 in
theorem map_same (vs : List Vt) : vs.map (fun x => ((fun r : List Int => r) x.1, x.2)) = vs := by simp

set_option maxRecDepth 100000 in
set_option maxHeartbeats 4000000 in
theorem withR_impl (w : World) (sz : Int) (a ar : Option Addr) (c cr k : Nat) (vs : List Vt) (r : List Int) (x : Vt) (hx : vs[k]? = some x) (hR : RdV w a vs) (hRr : RdI w ar r) (h0 : profOk sz vs = true) (hr : rkOk sz r = true) (hcr : r.length ≤ cr) :
    Calls Tryz.prog 60 #[.agg #[.int .i64 sz, .slice a vs.length c], .int .i64 k, .slice ar r.length cr] w fun e w' => ∃ a' c', e = .returned (.tuple #[.agg #[.int .i64 sz, .slice a' vs.length c'], .bool true]) ∧ RdV w' a' (vs.set k (r, x.2)) ∧ Ext w w' := by
  have hsz := prof_size h0
  have hvl := (prof_small h0).1
  have hk := lt_of_at hx
  have hrl := rk_len hr
  have H0 := hide h0
  have HR := hide hr
  have HX := hide hx
  have hin : inR (k : Int) 0 ((vs.length : Int) - 1) = true := inR_iff.2 (by omega)
  have q0 := new0 w (.int .i64 sz) [.slice a vs.length c] 29
  have q1 := new1 w (.int .i64 sz) (.slice a vs.length c) [] 29
  have hs0 : (w.alloc (.cells #[.int .i64 sz, .slice a vs.length c] 29)).heap.size = w.heap.size + 1 := by simp
  have p0 := BlkF.new (w.alloc (.cells #[.int .i64 sz, .slice a vs.length c] 29)) #[.int .i64 0, .slice none 0 0] 29
  rw [hs0] at p0
  have HW : Hid (wrap64 ((vs.length : Int) - 1) = (vs.length : Int) - 1) := IntWalk.wrap64_in _ (by omega)
  have HPO : Hid (∀ w', Ext w w' → Calls Tryz.prog 36 #[.agg #[.int .i64 sz, .slice a vs.length c]] w' fun e w'' => e = .returned (.bool true) ∧ Ext w' w'') := fun w' hw' => by
    have h := prof_impl w' sz a c vs (hR.ext hw')
    rw [h0] at h
    exact h
  have HRO : Hid (∀ w', Ext w w' → Calls Tryz.prog 80 #[.int .i64 sz, .slice ar r.length cr] w' fun e w'' => e = .returned (.bool true) ∧ Ext w' w'') := fun w' hw' => by
    have h := rank_impl w' sz ar cr r (hRr.ext hw') hcr
    rw [hr] at h
    exact h
  have HIN : Hid (∀ w', Calls Tryz.prog 63 #[.int .i64 k, .int .i64 0, .int .i64 ((vs.length : Int) - 1)] w' fun e w'' => e = .returned (.bool true) ∧ Ext w' w'') := fun w' => by
    have h := in_impl (k : Int) 0 ((vs.length : Int) - 1) w'
    rw [hin] at h
    exact h
  have HCL : Hid (∀ w', Ext w w' → Calls Tryz.prog 118 #[.slice ar r.length cr] w' fun e w'' => ∃ v, e = .returned v ∧ OwnI w'' w'.heap.size v r ∧ Ext w' w'') := fun w' hw' => cln_impl w' ar cr r (hRr.ext hw') (by omega)
  clear hx hr h0 hin hs0
  have y0 := HW.out
  go_enter Tryz.func60, Tryz.ntmps60
  go_wp2_with (first
    | (go_at_call 36; refine (HPO.out _ (by repeat (first | exact Ext.refl _ | assumption | refine Ext.alloc ?_ _ | refine Ext.drew ?_ | refine Ext.trans ?_ (by assumption)))).mono ?_; rintro e w1 ⟨rfl, hw1⟩; have q0 := Ext.keep (w' := w1) (by repeat (first | exact Ext.refl _ | assumption | refine Ext.alloc ?_ _ | refine Ext.drew ?_ | refine Ext.trans ?_ (by assumption))) q0; have q1 := Ext.keep (w' := w1) (by repeat (first | exact Ext.refl _ | assumption | refine Ext.alloc ?_ _ | refine Ext.drew ?_ | refine Ext.trans ?_ (by assumption))) q1)
    | (go_at_call 63; refine (HIN.out _).mono ?_; rintro e w1 ⟨rfl, hw1⟩; have q0 := Ext.keep (w' := w1) (by repeat (first | exact Ext.refl _ | assumption | refine Ext.alloc ?_ _ | refine Ext.drew ?_ | refine Ext.trans ?_ (by assumption))) q0; have q1 := Ext.keep (w' := w1) (by repeat (first | exact Ext.refl _ | assumption | refine Ext.alloc ?_ _ | refine Ext.drew ?_ | refine Ext.trans ?_ (by assumption))) q1)
    | (go_at_call 80; refine (HRO.out _ (by repeat (first | exact Ext.refl _ | assumption | refine Ext.alloc ?_ _ | refine Ext.drew ?_ | refine Ext.trans ?_ (by assumption)))).mono ?_; rintro e w1 ⟨rfl, hw1⟩; have q0 := Ext.keep (w' := w1) (by repeat (first | exact Ext.refl _ | assumption | refine Ext.alloc ?_ _ | refine Ext.drew ?_ | refine Ext.trans ?_ (by assumption))) q0; have q1 := Ext.keep (w' := w1) (by repeat (first | exact Ext.refl _ | assumption | refine Ext.alloc ?_ _ | refine Ext.drew ?_ | refine Ext.trans ?_ (by assumption))) q1))
  have p1 := p0.ext (w' := w1) (by repeat (first | exact Ext.refl _ | assumption | refine Ext.alloc ?_ _ | refine Ext.drew ?_ | refine Ext.trans ?_ (by assumption)))
  have hw : Ext w w1 := (by repeat (first | exact Ext.refl _ | assumption | refine Ext.alloc ?_ _ | refine Ext.drew ?_ | refine Ext.trans ?_ (by assumption)))
  clear y0 p0 hw1 HRO HIN HPO
  obtain ⟨wb, hwb⟩ : ∃ wb : World, wb = w1 := ⟨_, rfl⟩
  subst hwb
  refine (clone_impl _ sz a c vs (hR.ext hw) H0.out).mono ?_
  rintro e w2 ⟨v, es, rfl, hl, hm, hw2⟩
  rw [map_same] at hm
  have hel := vtsOf_len hm
  obtain ⟨g, c2, rfl, hc2, hg, hgl⟩ := hl.at0 (fun e => by rw [e] at hel; simp at hel; omega)
  obtain ⟨e, he, he1, he2⟩ := vtsOf_at hm HX.out
  rw [hel] at hc2 hl ⊢
  have hbe := hl.1.own
  rw [hel] at hbe
  have b0 := hbe.cell (k * 2) (by omega)
  have z0 := hbe.fr (k * 2)
  have p2 := p1.ext (hw2.trans (Ext.new w2 (.cells #[.int .i64 sz, .slice (some ⟨g, 0, none⟩) vs.length c2] 29)))
  have e0 := new0 w2 (.int .i64 sz) [.slice (some ⟨g, 0, none⟩) vs.length c2] 29
  have e1 := new1 w2 (.int .i64 sz) (.slice (some ⟨g, 0, none⟩) vs.length c2) [] 29
  have hE2 := Ext.new w2 (.cells #[.int .i64 sz, .slice (some ⟨g, 0, none⟩) vs.length c2] 29)
  have hbn := (hbe.ext hE2).cell (k * 2) (by omega)
  have hzn := (hbe.ext hE2).fr (k * 2)
  have HL := hide hl
  have HM := hide hm
  have HE := hide he
  have HE2 := hide he2
  have hwb1 : w.heap.size + 1 < wb.heap.size := p1.lt
  have hlt : w.heap.size + 1 < g := by omega
  obtain ⟨u0, hu0⟩ : ∃ u, u = (vtL es).getD (k * 2) undef := ⟨_, rfl⟩
  rw [← hu0] at hbn b0
  clear hl hm he he1 he2 hbe p1 hu0 hel b0 z0
  go_wp2
  refine wp_region_X (by kernel_rfl) (by kernel_rfl) ?_
  repeat' (refine wpX_stepQ (fun K hK => ?_)
           go_simp
           try (rw [if_neg (by intro h; simp [undef] at h)])
           try split
           all_goals
             first
             | (refine hK _ ?_
                clear hK K)
             | (apply Exists.intro
                refine ⟨fun wq hwq => ?_, hK _ ?_⟩
                · have hcq := hwq.cellS
                  go_simp
                  first
                  | exact ⟨Ext.refl _, rfl⟩
                clear hK K))
  refine wpX_stepS rfl (by kernel_rfl) (fun K hK wq hwq => ?_)
  go_simp
  refine (HCL.out _ (by repeat (first | exact Ext.refl _ | assumption | refine Ext.alloc ?_ _ | refine Ext.drew ?_ | refine Ext.trans ?_ (by assumption)))).mono ?_
  rintro e3 w3 ⟨u, rfl, hu, hw3⟩
  refine ⟨hw3, hK _ _ ?_⟩
  clear hK K
  obtain ⟨au, cu, rfl, hcu, _, hRu, hub⟩ := hu.val
  have hEq : Ext (w2.alloc (.cells #[.int .i64 sz, .slice (some ⟨g, 0, none⟩) vs.length c2] 29)) w3 := (by repeat (first | exact Ext.refl _ | assumption | refine Ext.alloc ?_ _ | refine Ext.drew ?_ | refine Ext.trans ?_ (by assumption)))
  have hgq : g < wq.heap.size := by
    have h1 := hwq.size
    simp at h1; omega
  have hbn := (hEq).keep hbn
  have e0 := hEq.keep e0
  have e1 := hEq.keep e1
  have hzn : w3.frozen? ⟨g, k * 2, none⟩ = false := (hEq.frozen (p := ⟨g, k * 2, none⟩) (by simp; omega)).trans hzn
  have p2 := p2.ext hEq
  have HUB : Hid (r ≠ [] → ∀ b off, au = some ⟨b, off, none⟩ → wb.heap.size ≤ b ∧ b ≠ g) := fun hne b off hab => by
    obtain ⟨g3, hg3, hb3, _⟩ := hub hne
    rw [hg3] at hab
    injection hab with hab
    injection hab with hab
    omega
  have HU := hide hRu
  have HL3 := hide (HL.out.ext (hE2.trans hEq))
  clear hub hu hRu hw3 hwq
  repeat' (refine wpX_stepQ (fun K hK => ?_)
           go_simp
           try (rw [if_neg (by intro h; simp [undef] at h)])
           try split
           all_goals
             first
             | (refine hK _ ?_
                clear hK K)
             | (apply Exists.intro
                refine ⟨fun wq hwq => ?_, hK _ ?_⟩
                · have hcq := hwq.cellS
                  go_simp
                  first
                  | exact ⟨Ext.refl _, rfl⟩
                clear hK K))
  refine wpX_stepC rfl (by kernel_rfl) (fun K hK' wz hwz => ?_)
  have hcz := hwz.cellS
  have hfz := hwz.frozenS
  go_simp
  refine hK' _ _ ?_
  clear hK' K
  obtain ⟨hset, hO⟩ := (HL3.out.ext hwz).setRd HE.out (HU.out.ext hwz) rfl hcu HUB.out
  rw [HM.out, HE2.out] at hset
  have hEz : Ext w3 wz := hwz
  have f0 := hO.keep (p := ⟨w2.heap.size, 0, none⟩) (by simp; omega) (hEz.keep e0)
  have f1 := hO.keep (p := ⟨w2.heap.size, 1, none⟩) (by simp; omega) (hEz.keep e1)
  have p3 := hO.blk (p2.ext hEz) (by omega)
  have hEw : Ext w (wz.setCell ⟨g, k * 2, none⟩ (.slice au r.length cu)) := Only.ext (hw.trans (hw2.trans (hE2.trans (hEq.trans hEz)))) hO (by omega)
  generalize wz.setCell ⟨g, k * 2, none⟩ (.slice au r.length cu) = w6 at hset hO f0 f1 p3 hEw ⊢
  clear hO
  refine wpX_nil (fun w5 hw5 => ?_)
  have hset := hset.ext hw5
  have f0 := hw5.keep f0
  have f1 := hw5.keep f1
  have p3 := p3.ext hw5
  have hEw := hEw.trans hw5
  have hsz5 := hw5.size
  have hgl5 := hw5.size
  have r0 := p3.cell 0 (by simp)
  have r1 := p3.cell 1 (by simp)
  have z0 := p3.fr 0
  have z1 := p3.fr 1
  have HS := hide hset
  clear hset p3 p2 hcz hfz hbn hzn e0 e1 hwz hEz
  go_wp2
  have hO1 : Only (w.heap.size + 1) w5 ((w5.setCell ⟨w.heap.size + 1, 0, none⟩ (.int .i64 sz)).setCell ⟨w.heap.size + 1, 1, none⟩ (.slice (some ⟨g, 0, none⟩) vs.length c2)) := ((Only.refl _ w5).setCell 0 _).setCell 1 _
  refine bodyPost_ret (v := .tuple #[.agg #[.int .i64 sz, .slice (some ⟨g, 0, none⟩) vs.length c2], .bool true]) (by simp [results, Tryz.results60, go_sem, r0, r1]) rfl ⟨_, _, rfl, ?_, Only.ext hEw hO1 (by omega)⟩
  exact (HS.out.only (by omega) hO1).rd

set_option maxRecDepth 100000 in
set_option maxHeartbeats 4000000 in
theorem mon_impl (w : World) (rule sz : Int) (a : Option Addr) (c : Nat) (vs : List Vt) (hR : RdV w a vs) :
    Calls Tryz.prog 22 #[.int .i64 rule, .agg #[.int .i64 sz, .slice a vs.length c]] w fun e w' => e = .returned (.int .i64 (monO rule sz vs)) ∧ Ext w w' := by
  have q0 := new0 w (.int .i64 sz) [.slice a vs.length c] 29
  have q1 := new1 w (.int .i64 sz) (.slice a vs.length c) [] 29
  obtain ⟨ww, hww⟩ : ∃ ww, ww = winB rule sz vs := ⟨_, rfl⟩
  have HWB : Hid (∀ w', Ext w w' → Calls Tryz.prog 18 #[.int .i64 rule, .agg #[.int .i64 sz, .slice a vs.length c]] w' fun e w'' => e = .returned (.int .i64 ww) ∧ Ext w' w'') := fun w' hw' => by
    rw [hww]; exact winb_impl w' rule sz a c vs (hR.ext hw')
  by_cases h1 : ww < 0
  · have HF : Hid (monO rule sz vs = -1) := hide (by unfold monO; rw [← hww, if_pos h1])
    clear hww
    go_enter Tryz.func22, Tryz.ntmps22
    go_wp2_with (go_at_call 18; refine (HWB.out _ (by repeat (first | exact Ext.refl _ | assumption | refine Ext.alloc ?_ _ | refine Ext.drew ?_ | refine Ext.trans ?_ (by assumption)))).mono ?_; rintro e w1 ⟨rfl, hw1⟩; have q0 := Ext.keep (w' := w1) (by repeat (first | exact Ext.refl _ | assumption | refine Ext.alloc ?_ _ | refine Ext.drew ?_ | refine Ext.trans ?_ (by assumption))) q0; have q1 := Ext.keep (w' := w1) (by repeat (first | exact Ext.refl _ | assumption | refine Ext.alloc ?_ _ | refine Ext.drew ?_ | refine Ext.trans ?_ (by assumption))) q1)
    go_ret
    exact ⟨ret_int HF.out.symm, (by repeat (first | exact Ext.refl _ | assumption | refine Ext.alloc ?_ _ | refine Ext.drew ?_ | refine Ext.trans ?_ (by assumption)))⟩
  obtain ⟨h0, _, _⟩ := winB_pos (rule := rule) (sz := sz) (vs := vs) (by rw [← hww]; omega)
  have HF : Hid (monO rule sz vs = firstN vs.length (monQ rule sz vs ww)) := hide (by unfold monO; rw [← hww, if_neg h1])
  have H0 := hide h0
  have hvl := (prof_small h0).1
  clear hww h0
  go_enter Tryz.func22, Tryz.ntmps22
  go_wp2_with (go_at_call 18; refine (HWB.out _ (by repeat (first | exact Ext.refl _ | assumption | refine Ext.alloc ?_ _ | refine Ext.drew ?_ | refine Ext.trans ?_ (by assumption)))).mono ?_; rintro e w1 ⟨rfl, hw1⟩; have q0 := Ext.keep (w' := w1) (by repeat (first | exact Ext.refl _ | assumption | refine Ext.alloc ?_ _ | refine Ext.drew ?_ | refine Ext.trans ?_ (by assumption))) q0; have q1 := Ext.keep (w' := w1) (by repeat (first | exact Ext.refl _ | assumption | refine Ext.alloc ?_ _ | refine Ext.drew ?_ | refine Ext.trans ?_ (by assumption))) q1)
  have hw : Ext w w1 := (by repeat (first | exact Ext.refl _ | assumption | refine Ext.alloc ?_ _ | refine Ext.drew ?_ | refine Ext.trans ?_ (by assumption)))
  obtain ⟨wb, hwb⟩ : ∃ wb : World, wb = w1 := ⟨_, rfl⟩
  subst hwb
  have Q0 := q0
  have Q1 := q1
  clear hw1 HWB
  go_loopw [6, 7, 8, 9, 10, 11, 20] (fun _ _ _ _ _ _ i wr => ∃ k : Nat, k ≤ vs.length ∧ i = .int .i64 k ∧ Hid (∀ j, j < k → monQ rule sz vs ww j = false) ∧ Ext wb wr) (fun _ _ _ _ _ _ i _ => vs.length - (intOf i).toNat)
  case atStart => exact ⟨0, Nat.zero_le _, rfl, fun j hj => absurd hj (by omega), Ext.refl _⟩
  case round =>
    obtain ⟨k, hk, rfl, hno, hwr⟩ := hrel
    by_cases hkt : k < vs.length
    · obtain ⟨x, hx⟩ := at_of_lt hkt
      obtain ⟨b, off, a', c', rfl, c0, c1, hc', hRx⟩ := (hR.ext (hw.trans hwr)).at_ hx
      have hrk := ((prof_small H0.out).2 x (List.mem_of_getElem? hx)).1
      have hrl := rk_len hrk
      have hgd : vs.getD k ([], 0) = x := by simp [List.getD, hx]
      have e0 := new0 wr (.slice a' x.1.length c') [.int .i64 x.2] 55
      have e1 := new1 wr (.slice a' x.1.length c') (.int .i64 x.2) [] 55
      have hE := Ext.new wr (.cells #[.slice a' x.1.length c', .int .i64 x.2] 55)
      have q0 := hwr.keep Q0
      have q1 := hwr.keep Q1
      have HRA := hide (raise_impl (wr.alloc (.cells #[.slice a' x.1.length c', .int .i64 x.2] 55)) a' c' x.1.length x.1 ww (by rw [hrl.1]; exact hrk) rfl (hRx.ext hE) hc')
      have HRK : Hid (∀ i : Nat, i < x.1.length → rkOk sz (raiseL x.1 i) = true) := fun i hi => raise_ok hrk hi
      have HX := hide hx
      have hk1 : k + 1 ≤ vs.length := by omega
      obtain ⟨W, hW⟩ : ∃ W, W = winB rule sz (vs.set k (raiseL x.1 (placeI x.1 ww).toNat, x.2)) := ⟨_, rfl⟩
      have HMQ : Hid (monQ rule sz vs ww k = (decide (1 ≤ placeI x.1 ww) && !(W == ww))) := hide (by unfold monQ; rw [hgd, hW])
      have HWI : Hid (∀ w' a3 c3, RdV w' a3 (vs.set k (raiseL x.1 (placeI x.1 ww).toNat, x.2)) → Calls Tryz.prog 18 #[.int .i64 rule, .agg #[.int .i64 sz, .slice a3 vs.length c3]] w' fun e w'' => e = .returned (.int .i64 W) ∧ Ext w' w'') := fun w' a3 c3 hR3 => by
        have h := winb_impl w' rule sz a3 c3 _ hR3
        rw [List.length_set, ← hW] at h
        exact h
      have HPL : Hid (1 ≤ placeI x.1 ww → (placeI x.1 ww).toNat < x.1.length) := fun h => by
        obtain ⟨i, hi, hi2, _⟩ := place_some (xs := x.1) (x := ww) (by omega)
        rw [hi, Int.toNat_natCast]; exact hi2
      have hraw : Ext w (wr.alloc (.cells #[.slice a' x.1.length c', .int .i64 x.2] 55)) := (hw.trans hwr).trans hE
      clear hx hgd hW hrk hrl
      have q0 := hE.keep q0
      have q1 := hE.keep q1
      by_cases hp : 1 ≤ placeI x.1 ww
      · rw [decide_eq_true hp] at HRA HMQ
        go_wp2_with fail
        refine HRA.out.mono ?_
        rintro e w2 ⟨v, rfl, hv, hw2⟩
        have hv := hv hp
        have hkx := HPL.out hp
        have hrk2 := HRK.out _ hkx
        generalize raiseL x.1 (placeI x.1 ww).toNat = r at hv hrk2 HWI
        obtain ⟨a3, c3, rfl, hc3, _, hR3, _⟩ := hv.val
        have q0 := hw2.keep q0
        have q1 := hw2.keep q1
        have HWR := hide (withR_impl w2 sz (some ⟨b, off, none⟩) a3 c c3 k vs r x HX.out (hR.ext (hraw.trans hw2)) hR3 H0.out hrk2 hc3)
        clear hv hR3 hrk2 HRA HPL HRK hkx hp
        go_wp2_with fail
        refine HWR.out.mono ?_
        rintro e w3 ⟨a4, c4, rfl, hR4, hw3⟩
        have HR4 := hide hR4
        have HWJ := hide (HWI.out (w3.alloc (.cells #[.int .i64 sz, .slice a4 vs.length c4] 29)) a4 c4 (HR4.out.ext (Ext.new _ _)))
        clear hR4 HWI HWR
        cases he : (W == ww)
        · rw [he] at HMQ
          have HR2 : Hid (firstN vs.length (monQ rule sz vs ww) = k) := firstN_some hkt hno.out HMQ.out
          have t1 : (W != ww) = true := by rw [bne, he]; rfl
          go_wp2_with fail
          refine HWJ.out.mono ?_
          rintro e w4 ⟨rfl, hw4⟩
          go_wp2
          go_ret
          exact ⟨ret_int (by rw [HF.out, HR2.out]), (by repeat (first | exact Ext.refl _ | assumption | refine Ext.alloc ?_ _ | refine Ext.drew ?_ | refine Ext.trans ?_ (by assumption)))⟩
        · rw [he] at HMQ
          have HN := none_succ hno.out HMQ.out
          have t1 : (W != ww) = false := by rw [bne, he]; rfl
          go_wp2_with fail
          refine HWJ.out.mono ?_
          rintro e w4 ⟨rfl, hw4⟩
          go_wp2
          exact ⟨⟨k + 1, hk1, by go_num, HN, (by repeat (first | exact Ext.refl _ | assumption | refine Ext.alloc ?_ _ | refine Ext.drew ?_ | refine Ext.trans ?_ (by assumption)))⟩, by simp [intOf]; omega⟩
      · rw [decide_eq_false hp] at HRA HMQ
        have HN := none_succ hno.out HMQ.out
        clear hp
        go_wp2_with fail
        refine HRA.out.mono ?_
        rintro e w2 ⟨v, rfl, hv, hw2⟩
        clear hv
        go_wp2
        exact ⟨⟨k + 1, hk1, by go_num, HN, (by repeat (first | exact Ext.refl _ | assumption | refine Ext.alloc ?_ _ | refine Ext.drew ?_ | refine Ext.trans ?_ (by assumption)))⟩, by simp [intOf]; omega⟩
    · have HN : Hid (firstN vs.length (monQ rule sz vs ww) = -1) := firstN_none (fun j hj => hno.out j (by omega))
      go_wp2
      go_ret
      exact ⟨ret_int (by rw [HF.out, HN.out]), hw.trans hwr⟩

end Go.Proofs.YtilcdnkkabmbfaaGreat
