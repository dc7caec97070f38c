/- Profiles that are copied, turned round, or left by a candidate. -/
import Derived.Test.YtilcdnkkabmbfaaGreatCk27
import Derived.Test.YtilcdnkkabmbfaaGreatCk26
import Derived.Test.YtilcdnkkabmbfaaGreatRai
import Derived.Test.YtilcdnkkabmbfaaGreatRevB
namespace Go.Proofs.YtilcdnkkabmbfaaGreat
open Go.RowKit

set_option maxRecDepth 100000 in
set_option maxHeartbeats 8000000 in
theorem clone_impl (w : World) (sz : Int) (a : Option Addr) (c : Nat) (vs : List Vt) (hR : RdV w a vs) (h0 : profOk sz vs = true) :
    Calls Tryz.prog 121 #[.agg #[.int .i64 sz, .slice a vs.length c]] w fun e w' => ∃ v es, e = .returned (.agg #[.int .i64 (sz), v]) ∧ LstV w' w.heap.size v es ∧ vtsOf es = vs.map (fun x => ((fun r => r) x.1, x.2)) ∧ Ext w w' := by
  have hvl := (prof_small h0).1
  have q0 := new0 w (.int .i64 sz) [.slice a vs.length c] 29
  have q1 := new1 w (.int .i64 sz) (.slice a vs.length c) [] 29
  obtain ⟨F, hF⟩ : ∃ F : List Int → List Int, F = (fun r => r) := ⟨_, rfl⟩
  rw [← hF]
  have hs0 : (w.alloc (.cells #[.int .i64 sz, .slice a vs.length c] 29)).heap.size = w.heap.size + 1 := by simp
  have hE1 := Ext.new w (.cells #[.int .i64 sz, .slice a vs.length c] 29)
  have p0 := BlkF.new (w.alloc (.cells #[.int .i64 sz, .slice a vs.length c] 29)) #[.int .i64 0, .slice none 0 0] 29
  have hE2 := Ext.new (w.alloc (.cells #[.int .i64 sz, .slice a vs.length c] 29)) (.cells #[.int .i64 0, .slice none 0 0] 29)
  have hs1 : ((w.alloc (.cells #[.int .i64 sz, .slice a vs.length c] 29)).alloc (.cells #[.int .i64 0, .slice none 0 0] 29)).heap.size = w.heap.size + 2 := by simp
  rw [hs0] at p0
  have HF : Hid (∀ (x : Vt) (a' : Option Addr) (c' : Nat) (w' : World), x ∈ vs → Ext w w' → RdI w' a' x.1 → x.1.length ≤ c' → Calls Tryz.prog 118 #[.slice a' x.1.length c'] w' fun e w'' => ∃ u, e = .returned u ∧ OwnI w'' w'.heap.size u (F x.1) ∧ Ext w' w'') := fun x a' c' w' hx hw' hRx hc' => by
    rw [hF]
    exact cln_impl w' a' c' x.1 hRx (by have := (rk_len ((prof_small h0).2 x hx).1).2; omega)
  clear hF
  go_enter Tryz.func121, Tryz.ntmps121
  go_wp2_with fail
  generalize w.alloc (.cells #[.int .i64 sz, .slice a vs.length c] 29) = wA at hE1 hE2 hs0 hs1 p0 q0 q1 ⊢
  have hw : Ext w (wA.alloc (.cells #[.int .i64 0, .slice none 0 0] 29)) := hE1.trans hE2
  generalize wA.alloc (.cells #[.int .i64 0, .slice none 0 0] 29) = wb at hE2 hs1 p0 hw ⊢
  have P1 := hide p0
  have hszw : w.heap.size + 1 < wb.heap.size := by omega
  clear p0
  have hB := (BlkF.new wb #[.int .i64 (sz), .slice none 0 0] 29).congr (f' := boxF (sz) (.slice none 0 0)) (fun o ho => by
    match o, ho with
    | 0, _ => rfl
    | 1, _ => rfl)
  have hE0 := Ext.new wb (.cells #[.int .i64 (sz), .slice none 0 0] 29)
  have hlt := hB.lt
  obtain ⟨g, hg⟩ : ∃ g : Nat, g = wb.heap.size := ⟨_, rfl⟩
  generalize wb.alloc (.cells #[.int .i64 (sz), .slice none 0 0] 29) = W0 at hB hE0 hlt ⊢
  obtain ⟨H, hH⟩ : ∃ H : Nat, H = W0.heap.size := ⟨_, rfl⟩
  rw [← hg] at hB hlt
  rw [← hH] at hlt
  first | rw [← hg] | rw [← hs1, ← hg]
  have hgw : w.heap.size ≤ g := by rw [hg]; exact hw.size
  have hHs : H ≤ W0.heap.size := by omega
  have hgb : wb.heap.size ≤ g := by omega
  have hg8 : w.heap.size + 1 < g := by omega
  have hB := hB.congr (f' := boxF (sz) (.slice none 0 0)) (fun _ _ => rfl)
  clear hH hg hszw hs1 hs0

  go_loopw [5, 12] (fun _ i wr => ∃ (k : Nat) (v : Value) (es : List (RowE × Int)), k ≤ vs.length ∧ i = .int .i64 k ∧ BlkF wr g 2 (boxF (sz) v) ∧ LstV wr H v es ∧ Hid (vtsOf es = (vs.take k).map (fun x => (F x.1, x.2))) ∧ H ≤ wr.heap.size ∧ Ext wb wr) (fun _ i _ => vs.length - (intOf i).toNat)
  case atStart => exact ⟨0, _, [], Nat.zero_le _, rfl, hB, LstV.nil _ _, rfl, hHs, hE0⟩
  case round =>
    clear hB hE0 hHs
    obtain ⟨k, v, es, hk, rfl, hB, hl, hmap, hHs, hwr⟩ := hrel
    have b0 := hB.cell 0 (by omega)
    have b1 := hB.cell 1 (by omega)
    have hb0 : boxF (sz) v 0 = .int .i64 (sz) := rfl
    have hb1 : boxF (sz) v 1 = v := rfl
    rw [hb0] at b0
    rw [hb1] at b1
    by_cases hkt : k < vs.length
    · obtain ⟨x, hx⟩ := at_of_lt hkt
      obtain ⟨b, off, a', c', rfl, c0, c1, hc', hRx⟩ := (hR.ext (hw.trans hwr)).at_ hx
      have hel : es.length ≤ 24 := by
        have h1 := congrArg List.length hmap.out
        unfold vtsOf at h1
        rw [List.length_map, List.length_map, List.length_take] at h1
        omega
      have HC := hide (fun w' (hw' : Ext wr w') => HF.out x a' c' w' (List.mem_of_getElem? hx) ((hw.trans hwr).trans hw') (hRx.ext hw') hc')
      have HN : Hid (∀ (u : RowE), u.xs = F x.1 → vtsOf (es ++ [(u, x.2)]) = (vs.take (k + 1)).map (fun x => (F x.1, x.2))) := fun u hu => by
        rw [take_at hx, List.map_append, ← hmap.out]
        simp [vtsOf, hu]
      have HL := hide hl
      have HB := hide hB
      clear hx hl hB hb0 hb1 hRx
      go_wp2
      refine wp_region_P [0,1,2,3,5,6,4,7,8,9,10,11] (by kernel_rfl) rfl (by kernel_rfl) ?_
      repeat' (refine wpP_stepQ rfl (fun K hK => ?_)
               go_simp
               try (rw [if_neg (by intro h; simp [undef] at h)])
               try split
               all_goals
                 first
                 | (refine hK _ ?_
                    clear hK K)
                 | (apply Exists.intro
                    refine ⟨fun wq hwq => ?_, hK _ ?_⟩
                    · have hcq := hwq.cellS
                      go_simp
                      first
                      | exact ⟨Ext.refl _, rfl⟩
                    clear hK K))
      refine wpP_stepS rfl (by kernel_rfl) (fun K hK wq hwq => ?_)
      go_simp
      refine (HC.out _ (by repeat (first | exact Ext.refl _ | assumption | refine Ext.alloc ?_ _ | refine Ext.drew ?_ | refine Ext.trans ?_ (by assumption)))).mono ?_
      rintro e w3 ⟨u, rfl, hu, hw3⟩
      refine ⟨hw3, hK _ _ ?_⟩
      clear hK K
      obtain ⟨a5, n5, c5, rfl⟩ := hu.form
      have hEy : Ext wr wq := (by repeat (first | exact Ext.refl _ | assumption | refine Ext.alloc ?_ _ | refine Ext.drew ?_ | refine Ext.trans ?_ (by assumption)))
      obtain ⟨wy, hwy⟩ : ∃ wy : World, wy = wq := ⟨_, rfl⟩
      subst hwy
      repeat' (refine wpP_stepQ rfl (fun K hK => ?_)
               go_simp
               try (rw [if_neg (by intro h; simp [undef] at h)])
               try split
               all_goals
                 first
                 | (refine hK _ ?_
                    clear hK K)
                 | (apply Exists.intro
                    refine ⟨fun wq hwq => ?_, hK _ ?_⟩
                    · have hcq := hwq.cellS
                      go_simp
                      first
                      | exact ⟨Ext.refl _, rfl⟩
                    clear hK K))
      refine wpP_stepS rfl (by kernel_rfl) (fun K hK wq hwq => ?_)
      go_simp
      refine ⟨(by repeat (first | exact Ext.refl _ | assumption | refine Ext.alloc ?_ _ | refine Ext.drew ?_ | refine Ext.trans ?_ (by assumption))), hK _ _ ?_⟩
      clear hK K
      refine wpP_stepC rfl (by kernel_rfl) (fun K hK' wa hwa => ?_)
      refine Eq.mpr (if_pos rfl) ?_
      have hEa : Ext wr wa := (by repeat (first | exact Ext.refl _ | assumption | refine Ext.alloc ?_ _ | refine Ext.drew ?_ | refine Ext.trans ?_ (by assumption)))
      have hLa := HL.out.ext hEa
      refine oper_appV H wa _ _ rfl v es (⟨a5, n5, c5, F x.1⟩, x.2) _ rfl hLa.1 (Nat.le_trans hHs hEa.size) rfl (hwa.keep (new0 wq _ _ _)) (hwa.keep (new1 wq _ _ _ _)) (by omega) ?_
      intro v' w4 hown4 hg4 hf4
      have hro : ∀ b, v.ownBlock = some b → H ≤ b := fun b hb => (World.ownsRow.lt HL.out.1 b hb).1
      have hB4 := (HB.out.ext hEa).grown hg4 (fun b hb => by have := hro b hb; omega)
      have hE4 : Ext wb w4 := Ext.grown (hwr.trans hEa) hg4 (fun b hb => by have := hro b hb; omega)
      have hL4 := HL.out.push (u := ⟨a5, n5, c5, F x.1⟩) (k := x.2) hHs hEy hu ((hwq.alloc _).trans hwa) hEa hown4 hg4
      have z1 := hB4.fr 1
      have d1 := hB4.cell 1 (by omega)
      rw [show boxF (sz) v 1 = v from rfl] at d1
      have hsz4 := Nat.le_trans hHs (Nat.le_trans hEa.size hg4.size)
      obtain ⟨av, nv, cv, rfl⟩ : ∃ av nv cv, v' = .slice av nv cv := by
        rcases hL4.1.val with ⟨h, _⟩ | ⟨g9, c9, h, _⟩
        · exact ⟨_, _, _, h⟩
        · exact ⟨_, _, _, h⟩
      have HL4 := hide hL4
      have HB4 := hide hB4
      clear hLa hro hown4 hg4 hf4 hL4 hB4 hEa hu hwa hwq hw3 b0 b1 c0 c1
      refine hK' _ _ ?_
      clear hK' K
      repeat' (refine wpP_stepQ rfl (fun K hK => ?_)
               go_simp
               try (rw [if_neg (by intro h; simp [undef] at h)])
               try split
               all_goals
                 first
                 | (refine hK _ ?_
                    clear hK K)
                 | (apply Exists.intro
                    refine ⟨fun wq hwq => ?_, hK _ ?_⟩
                    · have hcq := hwq.cellS
                      go_simp
                      first
                      | exact ⟨Ext.refl _, rfl⟩
                    clear hK K))
      refine wpP_stepL rfl (by kernel_rfl) (by kernel_rfl) (by kernel_rfl) (fun K hK wz hwz => ?_)
      have hcz := hwz.cellS
      have hfz := hwz.frozenS
      go_simp
      refine hK _ _ ?_
      clear hK K
      go_wp2
      have hOg : Only g wz (wz.setCell ⟨g, 1, none⟩ (.slice av nv cv)) := (Only.refl g wz).setCell 1 _
      refine ⟨⟨k + 1, .slice av nv cv, es ++ [(⟨a5, n5, c5, F x.1⟩, x.2)], by omega, by go_num, ?_, (HL4.out.ext hwz).only hlt hOg, HN.out _ rfl, ?_, Only.ext (hE4.trans hwz) hOg hgb⟩, by simp [intOf]; omega⟩
      · refine ((HB4.out.ext hwz).set 1 (by omega) _).congr (fun o ho => ?_)
        match o, ho with
        | 0, _ => rfl
        | 1, _ => rfl
      · exact Nat.le_trans hsz4 (Nat.le_trans hwz.size hOg.size)
    · have HM : Hid (vtsOf es = vs.map (fun x => (F x.1, x.2))) := hide (by rw [hmap.out, List.take_of_length_le (by omega)])
      have HL := hide hl
      have p1 := P1.out.ext hwr
      have r0 := p1.cell 0 (by simp)
      have r1 := p1.cell 1 (by simp)
      have z0 := p1.fr 0
      have z1 := p1.fr 1
      obtain ⟨av, nv, cv, rfl⟩ : ∃ av nv cv, v = .slice av nv cv := by
        rcases hl.1.val with ⟨h, _⟩ | ⟨g9, c9, h, _⟩
        · exact ⟨_, _, _, h⟩
        · exact ⟨_, _, _, h⟩
      have hww := hw.trans hwr
      have hp8 : w.heap.size + 1 < H := by omega
      clear hl hB p1 hmap hb0 hb1
      go_wp2
      have hO1 : Only (w.heap.size + 1) wr ((wr.setCell ⟨w.heap.size + 1, 0, none⟩ (.int .i64 (sz))).setCell ⟨w.heap.size + 1, 1, none⟩ (.slice av nv cv)) := ((Only.refl _ wr).setCell 0 _).setCell 1 _
      refine bodyPost_ret (v := .agg #[.int .i64 (sz), .slice av nv cv]) (by simp [results, Tryz.results121, go_sem, r0, r1]) rfl ⟨_, es, rfl, (HL.out.only hp8 hO1).base (by omega), HM.out, Only.ext hww hO1 (by omega)⟩

set_option maxRecDepth 100000 in
set_option maxHeartbeats 8000000 in
theorem copy_spec (w : World) (sz : Int) (a : Option Addr) (c : Nat) (vs : List Vt) (hR : RdV w a vs) (h0 : profOk sz vs = true) :
    Calls Tryz.prog 161 #[.agg #[.int .i64 sz, .slice a vs.length c]] w fun e w' => ∃ v es, e = .returned (.agg #[.int .i64 (sz), v]) ∧ LstV w' w.heap.size v es ∧ vtsOf es = vs.map (fun x => ((fun r => r) x.1, x.2)) ∧ Ext w w' := by
  have hvl := (prof_small h0).1
  have q0 := new0 w (.int .i64 sz) [.slice a vs.length c] 29
  have q1 := new1 w (.int .i64 sz) (.slice a vs.length c) [] 29
  obtain ⟨F, hF⟩ : ∃ F : List Int → List Int, F = (fun r => r) := ⟨_, rfl⟩
  rw [← hF]
  have hs0 : (w.alloc (.cells #[.int .i64 sz, .slice a vs.length c] 29)).heap.size = w.heap.size + 1 := by simp
  have hE1 := Ext.new w (.cells #[.int .i64 sz, .slice a vs.length c] 29)
  have p0 := BlkF.new (w.alloc (.cells #[.int .i64 sz, .slice a vs.length c] 29)) #[.int .i64 0, .slice none 0 0] 29
  have hE2 := Ext.new (w.alloc (.cells #[.int .i64 sz, .slice a vs.length c] 29)) (.cells #[.int .i64 0, .slice none 0 0] 29)
  have hs1 : ((w.alloc (.cells #[.int .i64 sz, .slice a vs.length c] 29)).alloc (.cells #[.int .i64 0, .slice none 0 0] 29)).heap.size = w.heap.size + 2 := by simp
  rw [hs0] at p0
  have HF : Hid (∀ (x : Vt) (a' : Option Addr) (c' : Nat) (w' : World), x ∈ vs → Ext w w' → RdI w' a' x.1 → x.1.length ≤ c' → ∀ u, u = x.1 → x.1.length ≤ 100000 ∧ F u = u) := fun x a' c' w' hx hw' hRx hc' => by
    rw [hF]
    exact fun u hu => ⟨by have := (rk_len ((prof_small h0).2 x hx).1).2; omega, rfl⟩
  clear hF
  go_enter Tryz.func161, Tryz.ntmps161
  go_wp2_with fail
  generalize w.alloc (.cells #[.int .i64 sz, .slice a vs.length c] 29) = wA at hE1 hE2 hs0 hs1 p0 q0 q1 ⊢
  have hw : Ext w (wA.alloc (.cells #[.int .i64 0, .slice none 0 0] 29)) := hE1.trans hE2
  generalize wA.alloc (.cells #[.int .i64 0, .slice none 0 0] 29) = wb at hE2 hs1 p0 hw ⊢
  have P1 := hide p0
  have hszw : w.heap.size + 1 < wb.heap.size := by omega
  clear p0
  have hB := (BlkF.new wb #[.int .i64 (sz), .slice none 0 0] 29).congr (f' := boxF (sz) (.slice none 0 0)) (fun o ho => by
    match o, ho with
    | 0, _ => rfl
    | 1, _ => rfl)
  have hE0 := Ext.new wb (.cells #[.int .i64 (sz), .slice none 0 0] 29)
  have hlt := hB.lt
  obtain ⟨g, hg⟩ : ∃ g : Nat, g = wb.heap.size := ⟨_, rfl⟩
  generalize wb.alloc (.cells #[.int .i64 (sz), .slice none 0 0] 29) = W0 at hB hE0 hlt ⊢
  obtain ⟨H, hH⟩ : ∃ H : Nat, H = W0.heap.size := ⟨_, rfl⟩
  rw [← hg] at hB hlt
  rw [← hH] at hlt
  first | rw [← hg] | rw [← hs1, ← hg]
  have hgw : w.heap.size ≤ g := by rw [hg]; exact hw.size
  have hHs : H ≤ W0.heap.size := by omega
  have hgb : wb.heap.size ≤ g := by omega
  have hg8 : w.heap.size + 1 < g := by omega
  have hB := hB.congr (f' := boxF (sz) (.slice none 0 0)) (fun _ _ => rfl)
  clear hH hg hszw hs1 hs0

  go_loopw [5, 12] (fun _ i wr => ∃ (k : Nat) (v : Value) (es : List (RowE × Int)), k ≤ vs.length ∧ i = .int .i64 k ∧ BlkF wr g 2 (boxF (sz) v) ∧ LstV wr H v es ∧ Hid (vtsOf es = (vs.take k).map (fun x => (F x.1, x.2))) ∧ H ≤ wr.heap.size ∧ Ext wb wr) (fun _ i _ => vs.length - (intOf i).toNat)
  case atStart => exact ⟨0, _, [], Nat.zero_le _, rfl, hB, LstV.nil _ _, rfl, hHs, hE0⟩
  case round =>
    clear hB hE0 hHs
    obtain ⟨k, v, es, hk, rfl, hB, hl, hmap, hHs, hwr⟩ := hrel
    have b0 := hB.cell 0 (by omega)
    have b1 := hB.cell 1 (by omega)
    have hb0 : boxF (sz) v 0 = .int .i64 (sz) := rfl
    have hb1 : boxF (sz) v 1 = v := rfl
    rw [hb0] at b0
    rw [hb1] at b1
    by_cases hkt : k < vs.length
    · obtain ⟨x, hx⟩ := at_of_lt hkt
      obtain ⟨b, off, a', c', rfl, c0, c1, hc', hRx⟩ := (hR.ext (hw.trans hwr)).at_ hx
      have hel : es.length ≤ 24 := by
        have h1 := congrArg List.length hmap.out
        unfold vtsOf at h1
        rw [List.length_map, List.length_map, List.length_take] at h1
        omega
      have HC := hide (fun w' (hw' : Ext wr w') => HF.out x a' c' w' (List.mem_of_getElem? hx) ((hw.trans hwr).trans hw') (hRx.ext hw') hc')
      have HN : Hid (∀ (u : RowE), u.xs = F x.1 → vtsOf (es ++ [(u, x.2)]) = (vs.take (k + 1)).map (fun x => (F x.1, x.2))) := fun u hu => by
        rw [take_at hx, List.map_append, ← hmap.out]
        simp [vtsOf, hu]
      have HL := hide hl
      have HB := hide hB
      clear hx hl hB hb0 hb1
      go_wp2
      refine wp_region_P [0,1,3,4,6,7,2,5,8,9,10,11,12] (by kernel_rfl) rfl (by kernel_rfl) ?_
      repeat' (refine wpP_stepQ rfl (fun K hK => ?_)
               go_simp
               try (rw [if_neg (by intro h; simp [undef] at h)])
               try split
               all_goals
                 first
                 | (refine hK _ ?_
                    clear hK K)
                 | (apply Exists.intro
                    refine ⟨fun wq hwq => ?_, hK _ ?_⟩
                    · have hcq := hwq.cellS
                      go_simp
                      first
                      | exact ⟨Ext.refl _, rfl⟩
                    clear hK K))
      refine wpP_stepS rfl (by kernel_rfl) (fun K hK wq hwq => ?_)
      go_simp
      refine ⟨(by repeat (first | exact Ext.refl _ | assumption | refine Ext.alloc ?_ _ | refine Ext.drew ?_ | refine Ext.trans ?_ (by assumption))), hK _ _ ?_⟩
      clear hK K
      refine wpP_stepS rfl (by kernel_rfl) (fun K hK ws hws => ?_)
      refine Eq.mpr (if_pos rfl) ?_
      refine oper_cpyI wq ws hws _ _ rfl x.1 a' x.1.length c' rfl rfl rfl (hRx.ext (by repeat (first | exact Ext.refl _ | assumption | refine Ext.alloc ?_ _ | refine Ext.drew ?_ | refine Ext.trans ?_ (by assumption)))) (HC.out wr (Ext.refl _) x.1 rfl).1 ?_
      intro u w3 hu hw3
      refine ⟨hw3, ?_⟩
      rw [← (HC.out wr (Ext.refl _) x.1 rfl).2] at hu
      refine hK _ _ ?_
      clear hK K
      obtain ⟨a5, n5, c5, rfl⟩ := hu.form
      have hEy : Ext wr wq := (by repeat (first | exact Ext.refl _ | assumption | refine Ext.alloc ?_ _ | refine Ext.drew ?_ | refine Ext.trans ?_ (by assumption)))
      obtain ⟨wy, hwy⟩ : ∃ wy : World, wy = wq := ⟨_, rfl⟩
      subst hwy
      repeat' (refine wpP_stepQ rfl (fun K hK => ?_)
               go_simp
               try (rw [if_neg (by intro h; simp [undef] at h)])
               try split
               all_goals
                 first
                 | (refine hK _ ?_
                    clear hK K)
                 | (apply Exists.intro
                    refine ⟨fun wq hwq => ?_, hK _ ?_⟩
                    · have hcq := hwq.cellS
                      go_simp
                      first
                      | exact ⟨Ext.refl _, rfl⟩
                    clear hK K))
      refine wpP_stepS rfl (by kernel_rfl) (fun K hK wq hwq => ?_)
      go_simp
      refine ⟨(by repeat (first | exact Ext.refl _ | assumption | refine Ext.alloc ?_ _ | refine Ext.drew ?_ | refine Ext.trans ?_ (by assumption))), hK _ _ ?_⟩
      clear hK K
      refine wpP_stepC rfl (by kernel_rfl) (fun K hK' wa hwa => ?_)
      refine Eq.mpr (if_pos rfl) ?_
      have hEa : Ext wr wa := (by repeat (first | exact Ext.refl _ | assumption | refine Ext.alloc ?_ _ | refine Ext.drew ?_ | refine Ext.trans ?_ (by assumption)))
      have hLa := HL.out.ext hEa
      refine oper_appV H wa _ _ rfl v es (⟨a5, n5, c5, F x.1⟩, x.2) _ rfl hLa.1 (Nat.le_trans hHs hEa.size) rfl (hwa.keep (new0 wq _ _ _)) (hwa.keep (new1 wq _ _ _ _)) (by omega) ?_
      intro v' w4 hown4 hg4 hf4
      have hro : ∀ b, v.ownBlock = some b → H ≤ b := fun b hb => (World.ownsRow.lt HL.out.1 b hb).1
      have hB4 := (HB.out.ext hEa).grown hg4 (fun b hb => by have := hro b hb; omega)
      have hE4 : Ext wb w4 := Ext.grown (hwr.trans hEa) hg4 (fun b hb => by have := hro b hb; omega)
      have hL4 := HL.out.push (u := ⟨a5, n5, c5, F x.1⟩) (k := x.2) hHs hEy hu ((hwq.alloc _).trans hwa) hEa hown4 hg4
      have z1 := hB4.fr 1
      have d1 := hB4.cell 1 (by omega)
      rw [show boxF (sz) v 1 = v from rfl] at d1
      have hsz4 := Nat.le_trans hHs (Nat.le_trans hEa.size hg4.size)
      obtain ⟨av, nv, cv, rfl⟩ : ∃ av nv cv, v' = .slice av nv cv := by
        rcases hL4.1.val with ⟨h, _⟩ | ⟨g9, c9, h, _⟩
        · exact ⟨_, _, _, h⟩
        · exact ⟨_, _, _, h⟩
      have HL4 := hide hL4
      have HB4 := hide hB4
      clear hLa hro hown4 hg4 hf4 hL4 hB4 hEa hu hwa hwq hw3 b0 b1 c0 c1
      refine hK' _ _ ?_
      clear hK' K
      repeat' (refine wpP_stepQ rfl (fun K hK => ?_)
               go_simp
               try (rw [if_neg (by intro h; simp [undef] at h)])
               try split
               all_goals
                 first
                 | (refine hK _ ?_
                    clear hK K)
                 | (apply Exists.intro
                    refine ⟨fun wq hwq => ?_, hK _ ?_⟩
                    · have hcq := hwq.cellS
                      go_simp
                      first
                      | exact ⟨Ext.refl _, rfl⟩
                    clear hK K))
      refine wpP_stepL rfl (by kernel_rfl) (by kernel_rfl) (by kernel_rfl) (fun K hK wz hwz => ?_)
      have hcz := hwz.cellS
      have hfz := hwz.frozenS
      go_simp
      refine hK _ _ ?_
      clear hK K
      go_wp2
      have hOg : Only g wz (wz.setCell ⟨g, 1, none⟩ (.slice av nv cv)) := (Only.refl g wz).setCell 1 _
      refine ⟨⟨k + 1, .slice av nv cv, es ++ [(⟨a5, n5, c5, F x.1⟩, x.2)], by omega, by go_num, ?_, (HL4.out.ext hwz).only hlt hOg, HN.out _ rfl, ?_, Only.ext (hE4.trans hwz) hOg hgb⟩, by simp [intOf]; omega⟩
      · refine ((HB4.out.ext hwz).set 1 (by omega) _).congr (fun o ho => ?_)
        match o, ho with
        | 0, _ => rfl
        | 1, _ => rfl
      · exact Nat.le_trans hsz4 (Nat.le_trans hwz.size hOg.size)
    · have HM : Hid (vtsOf es = vs.map (fun x => (F x.1, x.2))) := hide (by rw [hmap.out, List.take_of_length_le (by omega)])
      have HL := hide hl
      have p1 := P1.out.ext hwr
      have r0 := p1.cell 0 (by simp)
      have r1 := p1.cell 1 (by simp)
      have z0 := p1.fr 0
      have z1 := p1.fr 1
      obtain ⟨av, nv, cv, rfl⟩ : ∃ av nv cv, v = .slice av nv cv := by
        rcases hl.1.val with ⟨h, _⟩ | ⟨g9, c9, h, _⟩
        · exact ⟨_, _, _, h⟩
        · exact ⟨_, _, _, h⟩
      have hww := hw.trans hwr
      have hp8 : w.heap.size + 1 < H := by omega
      clear hl hB p1 hmap hb0 hb1
      go_wp2
      have hO1 : Only (w.heap.size + 1) wr ((wr.setCell ⟨w.heap.size + 1, 0, none⟩ (.int .i64 (sz))).setCell ⟨w.heap.size + 1, 1, none⟩ (.slice av nv cv)) := ((Only.refl _ wr).setCell 0 _).setCell 1 _
      refine bodyPost_ret (v := .agg #[.int .i64 (sz), .slice av nv cv]) (by simp [results, Tryz.results161, go_sem, r0, r1]) rfl ⟨_, es, rfl, (HL.out.only hp8 hO1).base (by omega), HM.out, Only.ext hww hO1 (by omega)⟩

set_option maxRecDepth 100000 in
set_option maxHeartbeats 2000000 in
theorem revP_impl (w : World) (sz : Int) (a : Option Addr) (c : Nat) (vs : List Vt) (hR : RdV w a vs) (h0 : profOk sz vs = true) :
    Calls Tryz.prog 65 #[.agg #[.int .i64 sz, .slice a vs.length c]] w fun e w' => ∃ v es, e = .returned (.tuple #[.agg #[.int .i64 sz, v], .bool true]) ∧ LstV w' w.heap.size v es ∧ vtsOf es = vs.map (fun x => (x.1.reverse, x.2)) ∧ Ext w w' := by
  have hsz := prof_size h0
  have HC : Hid (∀ w', Ext w w' → Calls Tryz.prog 54 #[.agg #[.int .i64 sz, .slice a vs.length c], .int .i64 sz, .func (.func 124) #[] #[]] w' fun e w'' => ∃ v es, e = .returned (.tuple #[.agg #[.int .i64 sz, v], .bool true]) ∧ LstV w'' w'.heap.size v es ∧ vtsOf es = vs.map (fun x => (x.1.reverse, x.2)) ∧ Ext w' w'') := fun w' hw' =>
    chg_impl 124 #[] #[] List.reverse w' sz sz a c vs (hR.ext hw') h0 Tryz.call124 (fun x a' c' w2 hx hw2 hRx hc' => by
      have hl := (rk_len ((prof_small h0).2 x hx).1)
      have H := hide (fun w3 (hw3 : Ext w2 w3) => rev_impl w3 a' c' x.1.length x.1 rfl (by omega) hl.2 (hRx.ext hw3))
      clear hl hRx
      show Calls Tryz.prog 124 #[.slice a' x.1.length c'] w2 _
      go_enter Tryz.func124, Tryz.ntmps124
      go_wp2_with fail
      refine (H.out _ (Ext.refl _)).mono ?_
      rintro e w1 ⟨u, rfl, hu, hw1⟩
      go_wp2
      go_ret
      exact ⟨_, rfl, hu, hw1⟩)
  have q0 := new0 w (.int .i64 sz) [.slice a vs.length c] 29
  have q1 := new1 w (.int .i64 sz) (.slice a vs.length c) [] 29
  have hE1 := Ext.new w (.cells #[.int .i64 sz, .slice a vs.length c] 29)
  have hs0 : (w.alloc (.cells #[.int .i64 sz, .slice a vs.length c] 29)).heap.size = w.heap.size + 1 := by simp
  have p0 := BlkF.new (w.alloc (.cells #[.int .i64 sz, .slice a vs.length c] 29)) #[.int .i64 0, .slice none 0 0] 29
  have hE2 := Ext.new (w.alloc (.cells #[.int .i64 sz, .slice a vs.length c] 29)) (.cells #[.int .i64 0, .slice none 0 0] 29)
  have hs1 : ((w.alloc (.cells #[.int .i64 sz, .slice a vs.length c] 29)).alloc (.cells #[.int .i64 0, .slice none 0 0] 29)).heap.size = w.heap.size + 2 := by simp
  rw [hs0] at p0
  clear h0
  go_enter Tryz.func65, Tryz.ntmps65
  go_wp2_with fail
  generalize w.alloc (.cells #[.int .i64 sz, .slice a vs.length c] 29) = wA at hE1 hE2 hs0 hs1 p0 q0 q1 ⊢
  have hw : Ext w (wA.alloc (.cells #[.int .i64 0, .slice none 0 0] 29)) := hE1.trans hE2
  generalize wA.alloc (.cells #[.int .i64 0, .slice none 0 0] 29) = wb at hE2 hs1 p0 hw ⊢
  refine (HC.out _ hw).mono ?_
  rintro e w1 ⟨v, es, rfl, hl, hm, hw1⟩
  have p1 := p0.ext hw1
  have r0 := p1.cell 0 (by simp)
  have r1 := p1.cell 1 (by simp)
  have z0 := p1.fr 0
  have z1 := p1.fr 1
  obtain ⟨av, cv, rfl, _⟩ := hl.form
  have HL := hide hl
  have HM := hide hm
  clear hl hm p1 p0 HC
  go_wp2
  have hO1 : Only (w.heap.size + 1) w1 ((w1.setCell ⟨w.heap.size + 1, 0, none⟩ (.int .i64 sz)).setCell ⟨w.heap.size + 1, 1, none⟩ (.slice av es.length cv)) := ((Only.refl _ w1).setCell 0 _).setCell 1 _
  refine bodyPost_ret (v := .tuple #[.agg #[.int .i64 sz, .slice av es.length cv], .bool true]) (by simp [results, Tryz.results65, go_sem, r0, r1]) rfl ⟨_, es, rfl, (HL.out.only (by omega) hO1).base (by omega), HM.out, Only.ext (hw.trans hw1) hO1 (by omega)⟩

set_option maxRecDepth 100000 in
set_option maxHeartbeats 4000000 in
theorem dropP_impl (w : World) (sz : Int) (a : Option Addr) (c : Nat) (vs : List Vt) (y : Int) (hR : RdV w a vs) (h0 : profOk sz vs = true) (hz : 2 ≤ sz) (hy : 0 ≤ y ∧ y < sz) :
    Calls Tryz.prog 20 #[.agg #[.int .i64 sz, .slice a vs.length c], .int .i64 y] w fun e w' => ∃ v es, e = .returned (.tuple #[.agg #[.int .i64 (sz - 1), v], .bool true]) ∧ LstV w' w.heap.size v es ∧ vtsOf es = vs.map (fun x => (dropL y x.1, x.2)) ∧ Ext w w' := by
  have hsz := prof_size h0
  have HC : Hid (∀ w' gy, Ext w w' → w'.cell? ⟨gy, 0, none⟩ = some (.int .i64 y) → Calls Tryz.prog 54 #[.agg #[.int .i64 sz, .slice a vs.length c], .int .i64 (sz - 1), .func (.func 55) #[] #[.pointer (some ⟨gy, 0, none⟩)]] w' fun e w'' => ∃ v es, e = .returned (.tuple #[.agg #[.int .i64 (sz - 1), v], .bool true]) ∧ LstV w'' w'.heap.size v es ∧ vtsOf es = vs.map (fun x => (dropL y x.1, x.2)) ∧ Ext w' w'') := fun w' gy hw' hgy =>
    chg_impl 55 #[] #[.pointer (some ⟨gy, 0, none⟩)] (dropL y) w' sz (sz - 1) a c vs (hR.ext hw') h0 Tryz.call55 (fun x a' c' w2 hx hw2 hRx hc' => by
      have hrk := ((prof_small h0).2 x hx).1
      have hl := rk_len hrk
      have hc0 := hw2.keep hgy
      have H := hide (fun w3 (hw3 : Ext w2 w3) => wout_impl w3 a' c' x.1.length x.1 y (by rw [hl.1]; exact hrk) rfl (by omega) (by omega) (hRx.ext hw3) hc')
      clear hl hRx hrk
      show Calls Tryz.prog 55 #[.slice a' x.1.length c', .pointer (some ⟨gy, 0, none⟩)] w2 _
      go_enter Tryz.func55, Tryz.ntmps55
      go_wp2_with fail
      refine (H.out _ (Ext.refl _)).mono ?_
      rintro e w1 ⟨u, rfl, hu, hw1⟩
      go_wp2
      go_ret
      exact ⟨_, rfl, hu, hw1⟩)
  have q0 := new0 w (.int .i64 sz) [.slice a vs.length c] 29
  have q1 := new1 w (.int .i64 sz) (.slice a vs.length c) [] 29
  have hE1 := Ext.new w (.cells #[.int .i64 sz, .slice a vs.length c] 29)
  have hs0 : (w.alloc (.cells #[.int .i64 sz, .slice a vs.length c] 29)).heap.size = w.heap.size + 1 := by simp
  have y00 := new0 (w.alloc (.cells #[.int .i64 sz, .slice a vs.length c] 29)) (.int .i64 y) [] 3
  have hE2 := Ext.new (w.alloc (.cells #[.int .i64 sz, .slice a vs.length c] 29)) (.cells #[.int .i64 y] 3)
  have hs1 : ((w.alloc (.cells #[.int .i64 sz, .slice a vs.length c] 29)).alloc (.cells #[.int .i64 y] 3)).heap.size = w.heap.size + 2 := by simp
  have p0 := BlkF.new ((w.alloc (.cells #[.int .i64 sz, .slice a vs.length c] 29)).alloc (.cells #[.int .i64 y] 3)) #[.int .i64 0, .slice none 0 0] 29
  have hE3 := Ext.new ((w.alloc (.cells #[.int .i64 sz, .slice a vs.length c] 29)).alloc (.cells #[.int .i64 y] 3)) (.cells #[.int .i64 0, .slice none 0 0] 29)
  have hs2 : (((w.alloc (.cells #[.int .i64 sz, .slice a vs.length c] 29)).alloc (.cells #[.int .i64 y] 3)).alloc (.cells #[.int .i64 0, .slice none 0 0] 29)).heap.size = w.heap.size + 3 := by simp
  rw [hs0] at y00
  rw [hs1] at p0
  have hh : hasB sz y = true := inR_iff.2 (by omega)
  have t0 : (sz == 1) = false := by rw [beq_eq_false_iff_ne]; omega
  have HY := (IntWalk.wrap64_in (sz - 1) (by omega))
  have HY := hide HY
  have hz1 := hsz.1
  have hz2 := hsz.2
  clear h0
  go_enter Tryz.func20, Tryz.ntmps20
  go_wp2_with (go_at_call 53; refine (cand_impl _ _ _ _ _ _ hz1 hz2).mono ?_; rintro e w1 ⟨rfl, hw1⟩; have q0 := Ext.keep (w' := w1) (by repeat (first | exact Ext.refl _ | assumption | refine Ext.alloc ?_ _ | refine Ext.drew ?_ | refine Ext.trans ?_ (by assumption))) q0; have q1 := Ext.keep (w' := w1) (by repeat (first | exact Ext.refl _ | assumption | refine Ext.alloc ?_ _ | refine Ext.drew ?_ | refine Ext.trans ?_ (by assumption))) q1; have y00 := Ext.keep (w' := w1) (by repeat (first | exact Ext.refl _ | assumption | refine Ext.alloc ?_ _ | refine Ext.drew ?_ | refine Ext.trans ?_ (by assumption))) y00)
  have HC2 := hide (fun w' => HC.out w' (w.heap.size + 1))
  clear HC
  have y1 := HY.out
  go_wp2_with fail
  clear y1
  have hw : Ext w w1 := (by repeat (first | exact Ext.refl _ | assumption | refine Ext.alloc ?_ _ | refine Ext.drew ?_ | refine Ext.trans ?_ (by assumption)))
  have p1 := p0.ext hw1
  have hszw := hw1.size
  refine (HC2.out _ hw y00).mono ?_
  rintro e w2 ⟨v, es, rfl, hl, hm, hw2⟩
  have p1 := p1.ext hw2
  have r0 := p1.cell 0 (by simp)
  have r1 := p1.cell 1 (by simp)
  have z0 := p1.fr 0
  have z1 := p1.fr 1
  obtain ⟨av, cv, rfl, _⟩ := hl.form
  have HL := hide hl
  have HM := hide hm
  clear hl hm p1 p0 HC2
  go_wp2
  have hO1 : Only (w.heap.size + 2) w2 ((w2.setCell ⟨w.heap.size + 2, 0, none⟩ (.int .i64 (sz - 1))).setCell ⟨w.heap.size + 2, 1, none⟩ (.slice av es.length cv)) := ((Only.refl _ w2).setCell 0 _).setCell 1 _
  refine bodyPost_ret (v := .tuple #[.agg #[.int .i64 (sz - 1), .slice av es.length cv], .bool true]) (by simp [results, Tryz.results20, go_sem, r0, r1]) rfl ⟨_, es, rfl, (HL.out.only (by omega) hO1).base (by omega), HM.out, Only.ext (hw.trans hw2) hO1 (by omega)⟩

end Go.Proofs.YtilcdnkkabmbfaaGreat
