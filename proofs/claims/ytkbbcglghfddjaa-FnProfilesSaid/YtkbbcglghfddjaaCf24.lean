/- Profiles that are copied, turned round, or left by a candidate. -/
import Derived.Test.YtkbbcglghfddjaaCf13
import Derived.Test.YtkbbcglghfddjaaCf21
import Derived.Test.YtkbbcglghfddjaaCf22
import Derived.Test.YtkbbcglghfddjaaCf23
namespace Go.Proofs.Ytkbbcglghfddjaa
open Go.RowKit

set_option maxRecDepth 100000 in
set_option maxHeartbeats 2000000 in
theorem revP_impl (w : World) (sz : Int) (a : Option Addr) (c : Nat) (vs : List Vt) (hR : RdV w a vs) (h0 : profOk sz vs = true) :
    Calls Try.prog 9 #[.agg #[.int .i64 sz, .slice a vs.length c]] w fun e w' => ∃ v es, e = .returned (.tuple #[.agg #[.int .i64 sz, v], .bool true]) ∧ LstV w' w.heap.size v es ∧ vtsOf es = vs.map (fun x => (x.1.reverse, x.2)) ∧ Ext w w' := by
  have hsz := prof_size h0
  have HC : Hid (∀ w', Ext w w' → Calls Try.prog 40 #[.agg #[.int .i64 sz, .slice a vs.length c], .int .i64 sz, .func (.func 41) #[] #[]] w' fun e w'' => ∃ v es, e = .returned (.tuple #[.agg #[.int .i64 sz, v], .bool true]) ∧ LstV w'' w'.heap.size v es ∧ vtsOf es = vs.map (fun x => (x.1.reverse, x.2)) ∧ Ext w' w'') := fun w' hw' =>
    chg_impl 41 #[] #[] List.reverse w' sz sz a c vs (hR.ext hw') h0 Try.call41 (fun x a' c' w2 hx hw2 hRx hc' => by
      have hl := (rk_len ((prof_small h0).2 x hx).1)
      have H := hide (fun w3 (hw3 : Ext w2 w3) => rev_impl w3 a' c' x.1.length x.1 rfl (by omega) hl.2 (hRx.ext hw3))
      clear hl hRx
      show Calls Try.prog 41 #[.slice a' x.1.length c'] w2 _
      go_enter Try.func41, Try.ntmps41
      go_wp2_with fail
      refine (H.out _ (Ext.refl _)).mono ?_
      rintro e w1 ⟨u, rfl, hu, hw1⟩
      go_wp2
      go_ret
      exact ⟨_, rfl, hu, hw1⟩)
  have q0 := new0 w (.int .i64 sz) [.slice a vs.length c] 26
  have q1 := new1 w (.int .i64 sz) (.slice a vs.length c) [] 26
  have hE1 := Ext.new w (.cells #[.int .i64 sz, .slice a vs.length c] 26)
  have hs0 : (w.alloc (.cells #[.int .i64 sz, .slice a vs.length c] 26)).heap.size = w.heap.size + 1 := by simp
  have p0 := BlkF.new (w.alloc (.cells #[.int .i64 sz, .slice a vs.length c] 26)) #[.int .i64 0, .slice none 0 0] 26
  have hE2 := Ext.new (w.alloc (.cells #[.int .i64 sz, .slice a vs.length c] 26)) (.cells #[.int .i64 0, .slice none 0 0] 26)
  have hs1 : ((w.alloc (.cells #[.int .i64 sz, .slice a vs.length c] 26)).alloc (.cells #[.int .i64 0, .slice none 0 0] 26)).heap.size = w.heap.size + 2 := by simp
  rw [hs0] at p0
  clear h0
  go_enter Try.func9, Try.ntmps9
  go_wp2_with fail
  generalize w.alloc (.cells #[.int .i64 sz, .slice a vs.length c] 26) = wA at hE1 hE2 hs0 hs1 p0 q0 q1 ⊢
  have hw : Ext w (wA.alloc (.cells #[.int .i64 0, .slice none 0 0] 26)) := hE1.trans hE2
  generalize wA.alloc (.cells #[.int .i64 0, .slice none 0 0] 26) = wb at hE2 hs1 p0 hw ⊢
  refine (HC.out _ hw).mono ?_
  rintro e w1 ⟨v, es, rfl, hl, hm, hw1⟩
  have p1 := p0.ext hw1
  have r0 := p1.cell 0 (by simp)
  have r1 := p1.cell 1 (by simp)
  have z0 := p1.fr 0
  have z1 := p1.fr 1
  obtain ⟨av, cv, rfl, _⟩ := hl.form
  have HL := hide hl
  have HM := hide hm
  clear hl hm p1 p0 HC
  go_wp2
  have hO1 : Only (w.heap.size + 1) w1 ((w1.setCell ⟨w.heap.size + 1, 0, none⟩ (.int .i64 sz)).setCell ⟨w.heap.size + 1, 1, none⟩ (.slice av es.length cv)) := ((Only.refl _ w1).setCell 0 _).setCell 1 _
  refine bodyPost_ret (v := .tuple #[.agg #[.int .i64 sz, .slice av es.length cv], .bool true]) (by simp [results, Try.results9, go_sem, r0, r1]) rfl ⟨_, es, rfl, (HL.out.only (by omega) hO1).base (by omega), HM.out, Only.ext (hw.trans hw1) hO1 (by omega)⟩

set_option maxRecDepth 100000 in
set_option maxHeartbeats 4000000 in
theorem dropP_impl (w : World) (sz : Int) (a : Option Addr) (c : Nat) (vs : List Vt) (y : Int) (hR : RdV w a vs) (h0 : profOk sz vs = true) (hz : 2 ≤ sz) (hy : 0 ≤ y ∧ y < sz) :
    Calls Try.prog 16 #[.agg #[.int .i64 sz, .slice a vs.length c], .int .i64 y] w fun e w' => ∃ v es, e = .returned (.tuple #[.agg #[.int .i64 (sz - 1), v], .bool true]) ∧ LstV w' w.heap.size v es ∧ vtsOf es = vs.map (fun x => (dropL y x.1, x.2)) ∧ Ext w w' := by
  have hsz := prof_size h0
  have HC : Hid (∀ w' gy, Ext w w' → w'.cell? ⟨gy, 0, none⟩ = some (.int .i64 y) → Calls Try.prog 40 #[.agg #[.int .i64 sz, .slice a vs.length c], .int .i64 (sz - 1), .func (.func 48) #[] #[.pointer (some ⟨gy, 0, none⟩)]] w' fun e w'' => ∃ v es, e = .returned (.tuple #[.agg #[.int .i64 (sz - 1), v], .bool true]) ∧ LstV w'' w'.heap.size v es ∧ vtsOf es = vs.map (fun x => (dropL y x.1, x.2)) ∧ Ext w' w'') := fun w' gy hw' hgy =>
    chg_impl 48 #[] #[.pointer (some ⟨gy, 0, none⟩)] (dropL y) w' sz (sz - 1) a c vs (hR.ext hw') h0 Try.call48 (fun x a' c' w2 hx hw2 hRx hc' => by
      have hrk := ((prof_small h0).2 x hx).1
      have hl := rk_len hrk
      have hc0 := hw2.keep hgy
      have H := hide (fun w3 (hw3 : Ext w2 w3) => wout_impl w3 a' c' x.1.length x.1 y (by rw [hl.1]; exact hrk) rfl (by omega) (by omega) (hRx.ext hw3) hc')
      clear hl hRx hrk
      show Calls Try.prog 48 #[.slice a' x.1.length c', .pointer (some ⟨gy, 0, none⟩)] w2 _
      go_enter Try.func48, Try.ntmps48
      go_wp2_with fail
      refine (H.out _ (Ext.refl _)).mono ?_
      rintro e w1 ⟨u, rfl, hu, hw1⟩
      go_wp2
      go_ret
      exact ⟨_, rfl, hu, hw1⟩)
  have q0 := new0 w (.int .i64 sz) [.slice a vs.length c] 26
  have q1 := new1 w (.int .i64 sz) (.slice a vs.length c) [] 26
  have hE1 := Ext.new w (.cells #[.int .i64 sz, .slice a vs.length c] 26)
  have hs0 : (w.alloc (.cells #[.int .i64 sz, .slice a vs.length c] 26)).heap.size = w.heap.size + 1 := by simp
  have y00 := new0 (w.alloc (.cells #[.int .i64 sz, .slice a vs.length c] 26)) (.int .i64 y) [] 3
  have hE2 := Ext.new (w.alloc (.cells #[.int .i64 sz, .slice a vs.length c] 26)) (.cells #[.int .i64 y] 3)
  have hs1 : ((w.alloc (.cells #[.int .i64 sz, .slice a vs.length c] 26)).alloc (.cells #[.int .i64 y] 3)).heap.size = w.heap.size + 2 := by simp
  have p0 := BlkF.new ((w.alloc (.cells #[.int .i64 sz, .slice a vs.length c] 26)).alloc (.cells #[.int .i64 y] 3)) #[.int .i64 0, .slice none 0 0] 26
  have hE3 := Ext.new ((w.alloc (.cells #[.int .i64 sz, .slice a vs.length c] 26)).alloc (.cells #[.int .i64 y] 3)) (.cells #[.int .i64 0, .slice none 0 0] 26)
  have hs2 : (((w.alloc (.cells #[.int .i64 sz, .slice a vs.length c] 26)).alloc (.cells #[.int .i64 y] 3)).alloc (.cells #[.int .i64 0, .slice none 0 0] 26)).heap.size = w.heap.size + 3 := by simp
  rw [hs0] at y00
  rw [hs1] at p0
  have hh : hasB sz y = true := inR_iff.2 (by omega)
  have t0 : (sz == 1) = false := by rw [beq_eq_false_iff_ne]; omega
  have HY := (IntWalk.wrap64_in (sz - 1) (by omega))
  have HY := hide HY
  have hz1 := hsz.1
  have hz2 := hsz.2
  clear h0
  go_enter Try.func16, Try.ntmps16
  go_wp2_with (go_at_call 46; refine (cand_impl _ _ _ _ _ _ hz1 hz2).mono ?_; rintro e w1 ⟨rfl, hw1⟩; have q0 := Ext.keep (w' := w1) (by repeat (first | exact Ext.refl _ | assumption | refine Ext.alloc ?_ _ | refine Ext.drew ?_ | refine Ext.trans ?_ (by assumption))) q0; have q1 := Ext.keep (w' := w1) (by repeat (first | exact Ext.refl _ | assumption | refine Ext.alloc ?_ _ | refine Ext.drew ?_ | refine Ext.trans ?_ (by assumption))) q1; have y00 := Ext.keep (w' := w1) (by repeat (first | exact Ext.refl _ | assumption | refine Ext.alloc ?_ _ | refine Ext.drew ?_ | refine Ext.trans ?_ (by assumption))) y00)
  have HC2 := hide (fun w' => HC.out w' (w.heap.size + 1))
  clear HC
  have y1 := HY.out
  go_wp2_with fail
  clear y1
  have hw : Ext w w1 := (by repeat (first | exact Ext.refl _ | assumption | refine Ext.alloc ?_ _ | refine Ext.drew ?_ | refine Ext.trans ?_ (by assumption)))
  have p1 := p0.ext hw1
  have hszw := hw1.size
  refine (HC2.out _ hw y00).mono ?_
  rintro e w2 ⟨v, es, rfl, hl, hm, hw2⟩
  have p1 := p1.ext hw2
  have r0 := p1.cell 0 (by simp)
  have r1 := p1.cell 1 (by simp)
  have z0 := p1.fr 0
  have z1 := p1.fr 1
  obtain ⟨av, cv, rfl, _⟩ := hl.form
  have HL := hide hl
  have HM := hide hm
  clear hl hm p1 p0 HC2
  go_wp2
  have hO1 : Only (w.heap.size + 2) w2 ((w2.setCell ⟨w.heap.size + 2, 0, none⟩ (.int .i64 (sz - 1))).setCell ⟨w.heap.size + 2, 1, none⟩ (.slice av es.length cv)) := ((Only.refl _ w2).setCell 0 _).setCell 1 _
  refine bodyPost_ret (v := .tuple #[.agg #[.int .i64 (sz - 1), .slice av es.length cv], .bool true]) (by simp [results, Try.results16, go_sem, r0, r1]) rfl ⟨_, es, rfl, (HL.out.only (by omega) hO1).base (by omega), HM.out, Only.ext (hw.trans hw2) hO1 (by omega)⟩

end Go.Proofs.Ytkbbcglghfddjaa
