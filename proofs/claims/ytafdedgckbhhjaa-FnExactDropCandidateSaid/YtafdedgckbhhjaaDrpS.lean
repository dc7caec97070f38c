/- DropCandidate of the spec, at every input; votes of an answer held. -/
import Derived.Test.YtafdedgckbhhjaaCk18
namespace Go.Proofs.Ytafdedgckbhhjaa
open Go.RowKit

set_option maxRecDepth 100000 in
set_option maxHeartbeats 4000000 in
theorem drp_sno (w : World) (sz : Int) (a : Option Addr) (c : Nat) (vs : List Vt) (y : Int) (hR : RdV w a vs) (hb : drpB sz vs y = false) :
    Calls Try.prog 5 #[.agg #[.int .i64 sz, .slice a vs.length c], .int .i64 y] w fun e w' => e = .returned (.tuple #[.agg #[.int .i64 0, .slice none 0 0], .bool false]) ∧ Ext w w' := by
  have q0 := new0 w (.int .i64 sz) [.slice a vs.length c] 28
  have q1 := new1 w (.int .i64 sz) (.slice a vs.length c) [] 28
  have hE1 := Ext.new w (.cells #[.int .i64 sz, .slice a vs.length c] 28)
  have hs0 : (w.alloc (.cells #[.int .i64 sz, .slice a vs.length c] 28)).heap.size = w.heap.size + 1 := by simp
  have p0 := BlkF.new (w.alloc (.cells #[.int .i64 sz, .slice a vs.length c] 28)) #[.int .i64 0, .slice none 0 0] 28
  have hE2 := Ext.new (w.alloc (.cells #[.int .i64 sz, .slice a vs.length c] 28)) (.cells #[.int .i64 0, .slice none 0 0] 28)
  rw [hs0] at p0
  have q0 := hE2.keep q0
  have q1 := hE2.keep q1
  have hw2 : Ext w ((w.alloc (.cells #[.int .i64 sz, .slice a vs.length c] 28)).alloc (.cells #[.int .i64 0, .slice none 0 0] 28)) := hE1.trans hE2
  have HO : Hid (∀ w', Ext w w' → Calls Try.prog 12 #[.agg #[.int .i64 sz, .slice a vs.length c]] w' fun e w'' => e = .returned (.bool (profOk sz vs)) ∧ Ext w' w'') := fun w' hw' => prof_spec w' sz a c vs (hR.ext hw')
  clear hs0
  cases hp : profOk sz vs
  · rw [hp] at HO
    clear hp hb
    go_enter Try.func5, Try.ntmps5
    go_wp2_with fail
    refine (HO.out _ hw2).mono ?_
    rintro e w1 ⟨rfl, hw1⟩
    have p1 := p0.ext hw1
    have r0 := p1.cell 0 (by simp)
    have r1 := p1.cell 1 (by simp)
    have z0 := p1.fr 0
    have z1 := p1.fr 1
    clear p1 p0
    go_wp2
    have hO1 : Only (w.heap.size + 1) w1 ((w1.setCell ⟨w.heap.size + 1, 0, none⟩ (.int .i64 0)).setCell ⟨w.heap.size + 1, 1, none⟩ (.slice none 0 0)) := ((Only.refl _ w1).setCell 0 _).setCell 1 _
    refine bodyPost_ret (v := .tuple #[.agg #[.int .i64 0, .slice none 0 0], .bool false]) (by simp [results, Try.results5, go_sem, r0, r1]) rfl ⟨rfl, Only.ext (hw2.trans hw1) hO1 (by omega)⟩
  have hsz := prof_size hp
  have hz1 := hsz.1
  have hz2 := hsz.2
  have hb : hasB sz y = false ∨ (hasB sz y = true ∧ sz = 1) := by
    unfold drpB at hb
    rw [hp] at hb
    unfold hasB
    cases hi : inR y 0 (sz - 1)
    · exact .inl rfl
    · rw [hi] at hb; simpa using hb
  rw [hp] at HO
  have HC : Hid (∀ w', Calls Try.prog 13 #[.agg #[.int .i64 sz, .slice a vs.length c], .int .i64 y] w' fun e w'' => e = .returned (.bool (hasB sz y)) ∧ Ext w' w'') := fun w' => cand_spec w' sz a vs.length c y hz1 hz2
  clear hp
  rcases hb with hb | ⟨hb, h1⟩
  · rw [hb] at HC
    clear hb
    go_enter Try.func5, Try.ntmps5
    go_wp2_with fail
    refine (HO.out _ hw2).mono ?_
    rintro e w0 ⟨rfl, hw0⟩
    have q0 := hw0.keep q0
    have q1 := hw0.keep q1
    go_wp2_with fail
    refine (HC.out _).mono ?_
    rintro e w1 ⟨rfl, hw1⟩
    have p1 := p0.ext (hw0.trans hw1)
    have r0 := p1.cell 0 (by simp)
    have r1 := p1.cell 1 (by simp)
    have z0 := p1.fr 0
    have z1 := p1.fr 1
    clear p1 p0
    go_wp2
    have hO1 : Only (w.heap.size + 1) w1 ((w1.setCell ⟨w.heap.size + 1, 0, none⟩ (.int .i64 0)).setCell ⟨w.heap.size + 1, 1, none⟩ (.slice none 0 0)) := ((Only.refl _ w1).setCell 0 _).setCell 1 _
    refine bodyPost_ret (v := .tuple #[.agg #[.int .i64 0, .slice none 0 0], .bool false]) (by simp [results, Try.results5, go_sem, r0, r1]) rfl ⟨rfl, Only.ext (hw2.trans (hw0.trans hw1)) hO1 (by omega)⟩
  · rw [hb] at HC
    subst h1
    clear hb
    go_enter Try.func5, Try.ntmps5
    go_wp2_with fail
    refine (HO.out _ hw2).mono ?_
    rintro e w0 ⟨rfl, hw0⟩
    have q0 := hw0.keep q0
    have q1 := hw0.keep q1
    go_wp2_with fail
    refine (HC.out _).mono ?_
    rintro e w1 ⟨rfl, hw1⟩
    have q0 := hw1.keep q0
    have q1 := hw1.keep q1
    have p1 := p0.ext (hw0.trans hw1)
    have r0 := p1.cell 0 (by simp)
    have r1 := p1.cell 1 (by simp)
    have z0 := p1.fr 0
    have z1 := p1.fr 1
    clear p1 p0
    go_wp2
    have hO1 : Only (w.heap.size + 1) w1 ((w1.setCell ⟨w.heap.size + 1, 0, none⟩ (.int .i64 0)).setCell ⟨w.heap.size + 1, 1, none⟩ (.slice none 0 0)) := ((Only.refl _ w1).setCell 0 _).setCell 1 _
    refine bodyPost_ret (v := .tuple #[.agg #[.int .i64 0, .slice none 0 0], .bool false]) (by simp [results, Try.results5, go_sem, r0, r1]) rfl ⟨rfl, Only.ext (hw2.trans (hw0.trans hw1)) hO1 (by omega)⟩

set_option maxRecDepth 100000 in
set_option maxHeartbeats 4000000 in
theorem drp_syes (w : World) (sz : Int) (a : Option Addr) (c : Nat) (vs : List Vt) (y : Int) (hR : RdV w a vs) (hp : profOk sz vs = true) (hi : inR y 0 (sz - 1) = true) (h1 : ¬ sz = 1) :
    Calls Try.prog 5 #[.agg #[.int .i64 sz, .slice a vs.length c], .int .i64 y] w fun e w' => ∃ v es, e = .returned (.tuple #[.agg #[.int .i64 (sz - 1), v], .bool true]) ∧ LstV w' w.heap.size v es ∧ vtsOf es = vs.map (fun x => (dropL y x.1, x.2)) ∧ Ext w w' := by
  have hsz := prof_size hp
  have hz1 := hsz.1
  have hz2 := hsz.2
  have q0 := new0 w (.int .i64 sz) [.slice a vs.length c] 28
  have q1 := new1 w (.int .i64 sz) (.slice a vs.length c) [] 28
  have hE1 := Ext.new w (.cells #[.int .i64 sz, .slice a vs.length c] 28)
  have hs0 : (w.alloc (.cells #[.int .i64 sz, .slice a vs.length c] 28)).heap.size = w.heap.size + 1 := by simp
  have p0 := BlkF.new (w.alloc (.cells #[.int .i64 sz, .slice a vs.length c] 28)) #[.int .i64 0, .slice none 0 0] 28
  have hE2 := Ext.new (w.alloc (.cells #[.int .i64 sz, .slice a vs.length c] 28)) (.cells #[.int .i64 0, .slice none 0 0] 28)
  rw [hs0] at p0
  have q0 := hE2.keep q0
  have q1 := hE2.keep q1
  have hw2 : Ext w ((w.alloc (.cells #[.int .i64 sz, .slice a vs.length c] 28)).alloc (.cells #[.int .i64 0, .slice none 0 0] 28)) := hE1.trans hE2
  have hw2s : ((w.alloc (.cells #[.int .i64 sz, .slice a vs.length c] 28)).alloc (.cells #[.int .i64 0, .slice none 0 0] 28)).heap.size = w.heap.size + 2 := by simp
  have HO : Hid (∀ w', Ext w w' → Calls Try.prog 12 #[.agg #[.int .i64 sz, .slice a vs.length c]] w' fun e w'' => e = .returned (.bool true) ∧ Ext w' w'') := fun w' hw' => by
    have h := prof_spec w' sz a c vs (hR.ext hw')
    rw [hp] at h; exact h
  have HC : Hid (∀ w', Calls Try.prog 13 #[.agg #[.int .i64 sz, .slice a vs.length c], .int .i64 y] w' fun e w'' => e = .returned (.bool true) ∧ Ext w' w'') := fun w' => by
    have h := cand_spec w' sz a vs.length c y hz1 hz2
    rw [show hasB sz y = true from hi] at h; exact h
  have HD : Hid (∀ w', Ext w w' → Calls Try.prog 14 #[.agg #[.int .i64 sz, .slice a vs.length c], .int .i64 y] w' fun e w'' => ∃ v es, e = .returned (.agg #[.int .i64 (sz - 1), v]) ∧ LstV w'' w'.heap.size v es ∧ vtsOf es = vs.map (fun x => (dropL y x.1, x.2)) ∧ Ext w' w'') := fun w' hw' => drop_spec w' sz a c vs y (hR.ext hw') hp
  clear hp hi hs0
  go_enter Try.func5, Try.ntmps5
  go_wp2_with fail
  refine (HO.out _ hw2).mono ?_
  rintro e w0 ⟨rfl, hw0⟩
  have q0 := hw0.keep q0
  have q1 := hw0.keep q1
  go_wp2_with fail
  refine (HC.out _).mono ?_
  rintro e w1 ⟨rfl, hw1⟩
  have q0 := hw1.keep q0
  have q1 := hw1.keep q1
  have hw01 := hw0.trans hw1
  have hs1 := hw01.size
  go_wp2_with fail
  refine (HD.out _ (hw2.trans hw01)).mono ?_
  rintro e w3 ⟨v, es, rfl, hl, hm, hw3⟩
  have p1 := p0.ext (hw01.trans hw3)
  have r0 := p1.cell 0 (by simp)
  have r1 := p1.cell 1 (by simp)
  have z0 := p1.fr 0
  have z1 := p1.fr 1
  clear p1 p0
  obtain ⟨av, cv, rfl, _⟩ := hl.form
  have HL := hide hl
  have HM := hide hm
  have hsz2 : w.heap.size + 2 ≤ w1.heap.size := by omega
  clear hl hm hw2s hs1
  go_wp2
  have hO1 : Only (w.heap.size + 1) w3 ((w3.setCell ⟨w.heap.size + 1, 0, none⟩ (.int .i64 (sz - 1))).setCell ⟨w.heap.size + 1, 1, none⟩ (.slice av es.length cv)) := ((Only.refl _ w3).setCell 0 _).setCell 1 _
  refine bodyPost_ret (v := .tuple #[.agg #[.int .i64 (sz - 1), .slice av es.length cv], .bool true]) (by simp [results, Try.results5, go_sem, r0, r1]) rfl ⟨_, es, rfl, (HL.out.only (by omega) hO1).base (by omega), HM.out, Only.ext ((hw2.trans hw01).trans hw3) hO1 (by omega)⟩
set_option maxRecDepth 100000 in
theorem drp_spec (w : World) (sz : Int) (a : Option Addr) (c : Nat) (vs : List Vt) (y : Int) (hR : RdV w a vs) :
    Calls Try.prog 5 #[.agg #[.int .i64 sz, .slice a vs.length c], .int .i64 y] w fun e w' => ∃ v, e = .returned (.tuple #[.agg #[.int .i64 (drpZ sz vs y), v], .bool (drpB sz vs y)]) ∧ WrVt w' w.heap.size w'.heap.size v (drpV sz vs y) ∧ Ext w w' := by
  cases hB : drpB sz vs y
  · unfold drpZ drpV
    rw [hB]
    refine (drp_sno w sz a c vs y hR hB).mono ?_
    rintro e w' ⟨rfl, hw⟩
    exact ⟨_, rfl, WrVt.nil _ _ _ _ _, hw⟩
  · unfold drpZ drpV
    rw [hB]
    unfold drpB at hB
    simp only [Bool.and_eq_true, Bool.not_eq_true', beq_eq_false_iff_ne] at hB
    refine (drp_syes w sz a c vs y hR hB.1 hB.2.1 hB.2.2).mono ?_
    rintro e w' ⟨v, es, rfl, hl, hm, hw⟩
    exact ⟨v, rfl, by rw [if_pos rfl, ← hm]; exact hl.wr, hw⟩

set_option maxRecDepth 100000 in
theorem markPV (w : World) (B H : Nat) (z : Int) (v : Value) (vs : List Vt) (h : WrVt w B H v vs) (hl : vs.length ≤ 1000) (hm : ∀ x ∈ vs.map Prod.fst, x.length ≤ 100) :
    Calls Try.prog 9 #[.agg #[.int .i64 z, v], .int .i64 1] w fun e w' => e = .returned (.int .i64 (mkAt (vs.map Prod.fst) 1 vs.length)) ∧ Rng B H w w' ∧ MarkVt w' v (vs.map Prod.fst) 1 := by
  have H := hide (fun w' (hw' : Ext w w') => markVt w' B H v vs 1 (h.ext hw') hl hm (by decide) (by decide))
  obtain ⟨a, c, rfl, _⟩ := h
  clear hm
  go_enter Try.func9, Try.ntmps9
  go_wp2_with fail
  refine (H.out _ (by repeat (first | exact Ext.refl _ | assumption | refine Ext.alloc ?_ _ | refine Ext.drew ?_ | refine Ext.trans ?_ (by assumption)))).mono ?_
  rintro e w1 ⟨rfl, hw1, hM⟩
  go_wp2
  go_ret
  exact ⟨rfl, (Rng.of_ext (Ext.new _ _)).trans hw1, hM⟩

set_option maxRecDepth 100000 in
theorem heldPV (w : World) (z : Int) (v : Value) (vs : List Vt) (h : MarkVt w v (vs.map Prod.fst) 1) (hl : vs.length ≤ 1000) (hm : ∀ x ∈ vs.map Prod.fst, x.length ≤ 100) :
    Calls Try.prog 10 #[.agg #[.int .i64 z, v], .int .i64 1] w fun e w' => e = .returned (.int .i64 (mkAt (vs.map Prod.fst) 1 vs.length)) ∧ Ext w w' := by
  have hK : ¬ (mkAt (vs.map Prod.fst) 1 vs.length < 0) := by unfold mkAt; omega
  obtain ⟨a, c, rfl, ho⟩ := h
  have hlen : (vs.map Prod.fst).length = vs.length := by rw [List.length_map]
  rw [hlen]
  have H := hide (fun w' (hw' : Ext w w') => heldVt1 w' a vs.length c (vs.map Prod.fst) 1 (fun j xs hx => by
    obtain ⟨g, a', c', h1, h2, h3, h4⟩ := ho j xs hx
    exact ⟨g, a', c', h1, hw'.keep h2, h3.ext hw', hw'.keep h4⟩) hlen hl hm (by decide) (by decide))
  clear ho hlen hm
  go_enter Try.func10, Try.ntmps10
  go_wp2_with fail
  refine (H.out _ (by repeat (first | exact Ext.refl _ | assumption | refine Ext.alloc ?_ _ | refine Ext.drew ?_ | refine Ext.trans ?_ (by assumption)))).mono ?_
  rintro e w1 ⟨rfl, hw1⟩
  go_wp2
  go_ret
  exact ⟨rfl, (by repeat (first | exact Ext.refl _ | assumption | refine Ext.alloc ?_ _ | refine Ext.drew ?_ | refine Ext.trans ?_ (by assumption)))⟩

end Go.Proofs.Ytafdedgckbhhjaa
