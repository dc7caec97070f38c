/- A profile in which each ranking is changed, of the program. -/
import Derived.Test.YthiojkpoeejkaaaCa21
import Derived.Test.YthiojkpoeejkaaaCa23
namespace Go.Proofs.Ythiojkpoeejkaaa
open Go.RowKit

def boxF (s : Int) (v : Value) (o : Nat) : Value := if o = 0 then .int .i64 s else if o = 1 then v else undef

set_option maxRecDepth 100000 in
set_option maxHeartbeats 4000000 in
theorem chg_impl (K : Nat) (fst cap : Array Value) (F : List Int → List Int) (w : World) (sz s2 : Int) (a : Option Addr) (c : Nat) (vs : List Vt) (hR : RdV w a vs) (h0 : profOk sz vs = true) (hK : Enters Try.prog K)
    (hf : ∀ (x : Vt) (a' : Option Addr) (c' : Nat) (w' : World), x ∈ vs → Ext w w' → RdI w' a' x.1 → x.1.length ≤ c' → Calls Try.prog K (fst.push (.slice a' x.1.length c') ++ cap) w' fun e w'' => ∃ u, e = .returned u ∧ OwnI w'' w'.heap.size u (F x.1) ∧ Ext w' w'') :
    Calls Try.prog 114 #[.agg #[.int .i64 sz, .slice a vs.length c], .int .i64 s2, .func (.func K) fst cap] w fun e w' => ∃ v es, e = .returned (.tuple #[.agg #[.int .i64 s2, v], .bool true]) ∧ LstV w' w.heap.size v es ∧ vtsOf es = vs.map (fun x => (F x.1, x.2)) ∧ Ext w w' := by
  unfold Enters at hK
  have HF := hide hf
  clear hf
  have hvl := (prof_small h0).1
  have q0 := new0 w (.int .i64 sz) [.slice a vs.length c] 47
  have q1 := new1 w (.int .i64 sz) (.slice a vs.length c) [] 47
  have hs1 : (w.alloc (.cells #[.int .i64 sz, .slice a vs.length c] 47)).heap.size = w.heap.size + 1 := by simp
  have p0 := BlkF.new (w.alloc (.cells #[.int .i64 sz, .slice a vs.length c] 47)) #[.int .i64 0, .slice none 0 0] 47
  rw [hs1] at p0
  have P0 := hide p0
  clear p0 hs1
  go_enter Try.func114, Try.ntmps114
  go_wp2_with (go_at_call 35; refine (prof_impl _ _ _ _ _ (hR.ext (by repeat (first | exact Ext.refl _ | assumption | refine Ext.alloc ?_ _ | refine Ext.drew ?_ | refine Ext.trans ?_ (by assumption))))).mono ?_; rintro e w1 ⟨rfl, hw1⟩; have q0 := Ext.keep (w' := w1) (by repeat (first | exact Ext.refl _ | assumption | refine Ext.alloc ?_ _ | refine Ext.drew ?_ | refine Ext.trans ?_ (by assumption))) q0; have q1 := Ext.keep (w' := w1) (by repeat (first | exact Ext.refl _ | assumption | refine Ext.alloc ?_ _ | refine Ext.drew ?_ | refine Ext.trans ?_ (by assumption))) q1)
  have P1 := hide (P0.out.ext hw1)
  have hw : Ext w w1 := (by repeat (first | exact Ext.refl _ | assumption | refine Ext.alloc ?_ _ | refine Ext.drew ?_ | refine Ext.trans ?_ (by assumption)))
  clear P0 hw1
  obtain ⟨wb, hwb⟩ : ∃ wb : World, wb = w1 := ⟨_, rfl⟩
  subst hwb
  have hB := (BlkF.new wb #[.int .i64 s2, .slice none 0 0] 47).congr (f' := boxF s2 (.slice none 0 0)) (fun o ho => by
    match o, ho with
    | 0, _ => rfl
    | 1, _ => rfl)
  have hE0 := Ext.new wb (.cells #[.int .i64 s2, .slice none 0 0] 47)
  have hlt := hB.lt
  generalize wb.alloc (.cells #[.int .i64 s2, .slice none 0 0] 47) = W0 at hB hE0 hlt ⊢
  obtain ⟨H, hH⟩ : ∃ H : Nat, H = W0.heap.size := ⟨_, rfl⟩
  obtain ⟨g, hg⟩ : ∃ g : Nat, g = wb.heap.size := ⟨_, rfl⟩
  rw [← hg] at hB hlt ⊢
  rw [← hH] at hlt
  have hgw : w.heap.size ≤ g := by rw [hg]; exact hw.size
  have hHs : H ≤ W0.heap.size := by omega
  have hgb : wb.heap.size ≤ g := by omega
  have hB := hB.congr (f' := boxF s2 (.slice none 0 0)) (fun _ _ => rfl)
  clear hH hg
  go_wp2_with fail
  go_loopw [10, 20] (fun _ i wr => ∃ (k : Nat) (v : Value) (es : List (RowE × Int)), k ≤ vs.length ∧ i = .int .i64 k ∧ BlkF wr g 2 (boxF s2 v) ∧ LstV wr H v es ∧ Hid (vtsOf es = (vs.take k).map (fun x => (F x.1, x.2))) ∧ H ≤ wr.heap.size ∧ Ext wb wr) (fun _ i _ => vs.length - (intOf i).toNat)
  case atStart => exact ⟨0, _, [], Nat.zero_le _, rfl, hB, LstV.nil _ _, rfl, hHs, hE0⟩
  case round =>
    clear hB hE0 hHs
    obtain ⟨k, v, es, hk, rfl, hB, hl, hmap, hHs, hwr⟩ := hrel
    have b0 := hB.cell 0 (by omega)
    have b1 := hB.cell 1 (by omega)
    have hb0 : boxF s2 v 0 = .int .i64 s2 := rfl
    have hb1 : boxF s2 v 1 = v := rfl
    rw [hb0] at b0
    rw [hb1] at b1
    by_cases hkt : k < vs.length
    · obtain ⟨x, hx⟩ := at_of_lt hkt
      obtain ⟨b, off, a', c', rfl, c0, c1, hc', hRx⟩ := (hR.ext (hw.trans hwr)).at_ hx
      have hel : es.length ≤ 24 := by
        have h1 := congrArg List.length hmap.out
        unfold vtsOf at h1
        rw [List.length_map, List.length_map, List.length_take] at h1
        omega
      have HC := hide (fun w' (hw' : Ext wr w') => HF.out x a' c' w' (List.mem_of_getElem? hx) ((hw.trans hwr).trans hw') (hRx.ext hw') hc')
      have HN : Hid (∀ (u : RowE), u.xs = F x.1 → vtsOf (es ++ [(u, x.2)]) = (vs.take (k + 1)).map (fun x => (F x.1, x.2))) := fun u hu => by
        rw [take_at hx, List.map_append, ← hmap.out]
        simp [vtsOf, hu]
      have HL := hide hl
      have HB := hide hB
      clear hx hRx hl hB hb0 hb1
      go_wp2
      refine wp_region_P [0,1,2,3,4,6,7,5,8,9,10,11,12] (by kernel_rfl) rfl (by kernel_rfl) ?_
      repeat' (refine wpP_stepQ rfl (fun K hK => ?_)
               go_simp
               try (rw [if_neg (by intro h; simp [undef] at h)])
               try split
               all_goals
                 first
                 | (refine hK _ ?_
                    clear hK K)
                 | (apply Exists.intro
                    refine ⟨fun wq hwq => ?_, hK _ ?_⟩
                    · have hcq := hwq.cellS
                      go_simp
                      first
                      | exact ⟨Ext.refl _, rfl⟩
                    clear hK K))
      refine wpP_stepS rfl (by kernel_rfl) (fun K hK wq hwq => ?_)
      go_simp
      refine (HC.out _ (by repeat (first | exact Ext.refl _ | assumption | refine Ext.alloc ?_ _ | refine Ext.drew ?_ | refine Ext.trans ?_ (by assumption)))).mono ?_
      rintro e w3 ⟨u, rfl, hu, hw3⟩
      refine ⟨hw3, hK _ _ ?_⟩
      clear hK K
      obtain ⟨a5, n5, c5, rfl⟩ := hu.form
      have hEy : Ext wr wq := (by repeat (first | exact Ext.refl _ | assumption | refine Ext.alloc ?_ _ | refine Ext.drew ?_ | refine Ext.trans ?_ (by assumption)))
      obtain ⟨wy, hwy⟩ : ∃ wy : World, wy = wq := ⟨_, rfl⟩
      subst hwy
      repeat' (refine wpP_stepQ rfl (fun K hK => ?_)
               go_simp
               try (rw [if_neg (by intro h; simp [undef] at h)])
               try split
               all_goals
                 first
                 | (refine hK _ ?_
                    clear hK K)
                 | (apply Exists.intro
                    refine ⟨fun wq hwq => ?_, hK _ ?_⟩
                    · have hcq := hwq.cellS
                      go_simp
                      first
                      | exact ⟨Ext.refl _, rfl⟩
                    clear hK K))
      refine wpP_stepS rfl (by kernel_rfl) (fun K hK wq hwq => ?_)
      go_simp
      refine ⟨(by repeat (first | exact Ext.refl _ | assumption | refine Ext.alloc ?_ _ | refine Ext.drew ?_ | refine Ext.trans ?_ (by assumption))), hK _ _ ?_⟩
      clear hK K
      refine wpP_stepC rfl (by kernel_rfl) (fun K hK' wa hwa => ?_)
      refine Eq.mpr (if_pos rfl) ?_
      have hEa : Ext wr wa := (by repeat (first | exact Ext.refl _ | assumption | refine Ext.alloc ?_ _ | refine Ext.drew ?_ | refine Ext.trans ?_ (by assumption)))
      have hLa := HL.out.ext hEa
      refine oper_appV H wa _ _ rfl v es (⟨a5, n5, c5, F x.1⟩, x.2) _ rfl hLa.1 (Nat.le_trans hHs hEa.size) rfl (hwa.keep (new0 wq _ _ _)) (hwa.keep (new1 wq _ _ _ _)) (by omega) ?_
      intro v' w4 hown4 hg4 hf4
      have hro : ∀ b, v.ownBlock = some b → H ≤ b := fun b hb => (World.ownsRow.lt HL.out.1 b hb).1
      have hB4 := (HB.out.ext hEa).grown hg4 (fun b hb => by have := hro b hb; omega)
      have hE4 : Ext wb w4 := Ext.grown (hwr.trans hEa) hg4 (fun b hb => by have := hro b hb; omega)
      have hL4 := HL.out.push (u := ⟨a5, n5, c5, F x.1⟩) (k := x.2) hHs hEy hu ((hwq.alloc _).trans hwa) hEa hown4 hg4
      have z1 := hB4.fr 1
      have d1 := hB4.cell 1 (by omega)
      rw [show boxF s2 v 1 = v from rfl] at d1
      have hsz4 := Nat.le_trans hHs (Nat.le_trans hEa.size hg4.size)
      obtain ⟨av, nv, cv, rfl⟩ : ∃ av nv cv, v' = .slice av nv cv := by
        rcases hL4.1.val with ⟨h, _⟩ | ⟨g9, c9, h, _⟩
        · exact ⟨_, _, _, h⟩
        · exact ⟨_, _, _, h⟩
      have HL4 := hide hL4
      have HB4 := hide hB4
      clear hLa hro hown4 hg4 hf4 hL4 hB4 hEa hu hwa hwq hw3 b0 b1 c0 c1
      refine hK' _ _ ?_
      clear hK' K
      repeat' (refine wpP_stepQ rfl (fun K hK => ?_)
               go_simp
               try (rw [if_neg (by intro h; simp [undef] at h)])
               try split
               all_goals
                 first
                 | (refine hK _ ?_
                    clear hK K)
                 | (apply Exists.intro
                    refine ⟨fun wq hwq => ?_, hK _ ?_⟩
                    · have hcq := hwq.cellS
                      go_simp
                      first
                      | exact ⟨Ext.refl _, rfl⟩
                    clear hK K))
      refine wpP_stepL rfl (by kernel_rfl) (by kernel_rfl) (by kernel_rfl) (fun K hK wz hwz => ?_)
      have hcz := hwz.cellS
      have hfz := hwz.frozenS
      go_simp
      refine hK _ _ ?_
      clear hK K
      go_wp2
      have hOg : Only g wz (wz.setCell ⟨g, 1, none⟩ (.slice av nv cv)) := (Only.refl g wz).setCell 1 _
      refine ⟨⟨k + 1, .slice av nv cv, es ++ [(⟨a5, n5, c5, F x.1⟩, x.2)], by omega, by go_num, ?_, (HL4.out.ext hwz).only hlt hOg, HN.out _ rfl, ?_, Only.ext (hE4.trans hwz) hOg hgb⟩, by simp [intOf]; omega⟩
      · refine ((HB4.out.ext hwz).set 1 (by omega) _).congr (fun o ho => ?_)
        match o, ho with
        | 0, _ => rfl
        | 1, _ => rfl
      · exact Nat.le_trans hsz4 (Nat.le_trans hwz.size hOg.size)
    · have HM : Hid (vtsOf es = vs.map (fun x => (F x.1, x.2))) := hide (by rw [hmap.out, List.take_of_length_le (by omega)])
      have HL := hide hl
      have p1 := P1.out.ext hwr
      have r0 := p1.cell 0 (by simp)
      have r1 := p1.cell 1 (by simp)
      have z0 := p1.fr 0
      have z1 := p1.fr 1
      obtain ⟨av, nv, cv, rfl⟩ : ∃ av nv cv, v = .slice av nv cv := by
        rcases hl.1.val with ⟨h, _⟩ | ⟨g9, c9, h, _⟩
        · exact ⟨_, _, _, h⟩
        · exact ⟨_, _, _, h⟩
      have hww := hw.trans hwr
      have hp8 : w.heap.size + 1 < H := by have := P1.out.lt; omega
      clear hl hB p1 hmap hb0 hb1
      go_wp2
      have hO1 : Only (w.heap.size + 1) wr ((wr.setCell ⟨w.heap.size + 1, 0, none⟩ (.int .i64 s2)).setCell ⟨w.heap.size + 1, 1, none⟩ (.slice av nv cv)) := ((Only.refl _ wr).setCell 0 _).setCell 1 _
      refine bodyPost_ret (v := .tuple #[.agg #[.int .i64 s2, .slice av nv cv], .bool true]) (by simp [results, Try.results114, go_sem, r0, r1]) rfl ⟨_, es, rfl, (HL.out.only hp8 hO1).base (by omega), HM.out, Only.ext hww hO1 (by omega)⟩

end Go.Proofs.Ythiojkpoeejkaaa
