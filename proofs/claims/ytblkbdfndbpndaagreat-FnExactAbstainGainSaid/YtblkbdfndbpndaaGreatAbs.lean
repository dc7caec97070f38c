/- A vote without which a candidate wins that it prefers: the profile without a vote, of the spec. -/
import Derived.Test.YtblkbdfndbpndaaGreatWin
import Derived.Test.YtblkbdfndbpndaaGreatBld
namespace Go.Proofs.YtblkbdfndbpndaaGreat
open Go.RowKit

set_option maxRecDepth 100000 in
theorem er_ne {vs : List Vt} {k i : Nat} {x : Vt} (hx : vs[i]? = some x) (h : i ≠ k) : (vs.take (i + 1)).eraseIdx k = (vs.take i).eraseIdx k ++ [x] := by
  have hl := lt_of_at hx
  have hlen : (vs.take i).length = i := by rw [List.length_take]; omega
  rw [take_at hx]
  by_cases hk : k < i
  · rw [List.eraseIdx_append_of_lt_length (by omega)]
  · rw [List.eraseIdx_of_length_le (by rw [List.length_append, hlen]; simp; omega), List.eraseIdx_of_length_le (by omega)]
set_option maxRecDepth 100000 in
theorem er_eq {vs : List Vt} {k : Nat} {x : Vt} (hx : vs[k]? = some x) : (vs.take (k + 1)).eraseIdx k = (vs.take k).eraseIdx k := by
  have hl := lt_of_at hx
  have hlen : (vs.take k).length = k := by rw [List.length_take]; omega
  rw [take_at hx, List.eraseIdx_append_of_length_le (by omega), List.eraseIdx_of_length_le (l := vs.take k) (by omega), hlen]
  simp

set_option maxRecDepth 100000 in
set_option maxHeartbeats 8000000 in
theorem wov_spec (w : World) (sz : Int) (a : Option Addr) (c : Nat) (vs : List Vt) (k : Nat) (hR : RdV w a vs) (h0 : profOk sz vs = true) :
    Calls Tryz.prog 75 #[.agg #[.int .i64 sz, .slice a vs.length c], .int .i64 k] w fun e w' => ∃ a2 m2 c2, e = .returned (.agg #[.int .i64 sz, .slice a2 m2 c2]) ∧ m2 = (vs.eraseIdx k).length ∧ RdV w' a2 (vs.eraseIdx k) ∧ Ext w w' := by
  have hvl := (prof_small h0).1
  have q0 := new0 w (.int .i64 sz) [.slice a vs.length c] 29
  have q1 := new1 w (.int .i64 sz) (.slice a vs.length c) [] 29
  have hs0 : (w.alloc (.cells #[.int .i64 sz, .slice a vs.length c] 29)).heap.size = w.heap.size + 1 := by simp
  have hE1 := Ext.new w (.cells #[.int .i64 sz, .slice a vs.length c] 29)
  have p0 := BlkF.new (w.alloc (.cells #[.int .i64 sz, .slice a vs.length c] 29)) #[.int .i64 0, .slice none 0 0] 29
  have hE2 := Ext.new (w.alloc (.cells #[.int .i64 sz, .slice a vs.length c] 29)) (.cells #[.int .i64 0, .slice none 0 0] 29)
  have hs1 : ((w.alloc (.cells #[.int .i64 sz, .slice a vs.length c] 29)).alloc (.cells #[.int .i64 0, .slice none 0 0] 29)).heap.size = w.heap.size + 2 := by simp
  rw [hs0] at p0
  clear h0
  go_enter Tryz.func75, Tryz.ntmps75
  go_wp2_with fail
  generalize w.alloc (.cells #[.int .i64 sz, .slice a vs.length c] 29) = wA at hE1 hE2 hs0 hs1 p0 q0 q1 ⊢
  have hw : Ext w (wA.alloc (.cells #[.int .i64 0, .slice none 0 0] 29)) := hE1.trans hE2
  generalize wA.alloc (.cells #[.int .i64 0, .slice none 0 0] 29) = wb at hE2 hs1 p0 hw ⊢
  have P1 := hide p0
  have hszw : w.heap.size + 1 < wb.heap.size := by omega
  clear p0
  have hB := (BlkF.new wb #[.int .i64 sz, .slice none 0 0] 29).congr (f' := boxF sz (.slice none 0 0)) (fun o ho => by
    match o, ho with
    | 0, _ => rfl
    | 1, _ => rfl)
  have hE0 := Ext.new wb (.cells #[.int .i64 sz, .slice none 0 0] 29)
  have hlt := hB.lt
  obtain ⟨g, hg⟩ : ∃ g : Nat, g = wb.heap.size := ⟨_, rfl⟩
  generalize wb.alloc (.cells #[.int .i64 sz, .slice none 0 0] 29) = W0 at hB hE0 hlt ⊢
  obtain ⟨H, hH⟩ : ∃ H : Nat, H = W0.heap.size := ⟨_, rfl⟩
  rw [← hg] at hB hlt
  rw [← hH] at hlt
  first | rw [← hg] | rw [← hs1, ← hg]
  have hgw : w.heap.size ≤ g := by rw [hg]; exact hw.size
  have hHs : H ≤ W0.heap.size := by omega
  have hgb : wb.heap.size ≤ g := by omega
  have hg8 : w.heap.size + 1 < g := by omega
  have hB := hB.congr (f' := boxF sz (.slice none 0 0)) (fun _ _ => rfl)
  clear hH hg hszw hs1 hs0
  go_loopw [6, 7, 14] (fun _ _ i wr => ∃ (j : Nat) (v : Value) (es : List (RowE × Int)), j ≤ vs.length ∧ i = .int .i64 j ∧ BlkF wr g 2 (boxF sz v) ∧ RowsV wr H v es ∧ Hid (ReadE w es) ∧ Hid (vtsOf es = (vs.take j).eraseIdx k) ∧ H ≤ wr.heap.size ∧ Ext wb wr) (fun _ _ i _ => vs.length - (intOf i).toNat)
  case atStart => exact ⟨0, _, [], Nat.zero_le _, rfl, hB, RowsV.nil _ _, ReadE.nil _, by show _ = _; simp [vtsOf], hHs, hE0⟩
  case round =>
    clear hB hE0 hHs
    obtain ⟨j, v, es, hj, rfl, hB, hl, hrd, hmap, hHs, hwr⟩ := hrel
    have b0 := hB.cell 0 (by omega)
    have b1 := hB.cell 1 (by omega)
    have hb0 : boxF sz v 0 = .int .i64 sz := rfl
    have hb1 : boxF sz v 1 = v := rfl
    rw [hb0] at b0
    rw [hb1] at b1
    by_cases hkt : j < vs.length
    · obtain ⟨x, hx⟩ := at_of_lt hkt
      obtain ⟨b, off, a', c', rfl, c0, c1, hc', hRx⟩ := hR.at_ hx
      have c0 := (hw.trans hwr).keep c0
      have c1 := (hw.trans hwr).keep c1
      have hel : es.length ≤ 24 := by
        have h1 := congrArg List.length hmap.out
        unfold vtsOf at h1
        rw [List.length_map] at h1
        have h2 := List.length_eraseIdx_le (l := vs.take j) (i := k)
        rw [List.length_take] at h2
        omega
      have hj1 : j + 1 ≤ vs.length := by omega
      have e0 := new0 wr (.slice a' x.1.length c') [.int .i64 x.2] 60
      have e1 := new1 wr (.slice a' x.1.length c') (.int .i64 x.2) [] 60
      have hEv := Ext.new wr (.cells #[.slice a' x.1.length c', .int .i64 x.2] 60)
      by_cases hjk : j = k
      · have HN : Hid (vtsOf es = (vs.take (j + 1)).eraseIdx k) := hide (by rw [hmap.out, hjk, er_eq (by rw [← hjk]; exact hx)])
        have t0 : ((j : Int) == (k : Int)) = true := by rw [hjk]; simp
        have t1 : ((j : Int) != (k : Int)) = false := by rw [bne, t0]; rfl
        clear hx hjk hb0 hb1
        go_wp2
        exact ⟨⟨j + 1, v, es, hj1, by go_num, hB.ext hEv, hl.ext hEv, hrd, HN, Nat.le_trans hHs hEv.size, hwr.trans hEv⟩, by simp [intOf]; omega⟩
      · have HN : Hid (vtsOf (es ++ [(⟨a', x.1.length, c', x.1⟩, x.2)]) = (vs.take (j + 1)).eraseIdx k) := hide (by
          rw [er_ne hx hjk, ← hmap.out]; simp [vtsOf])
        have t0 : ((j : Int) == (k : Int)) = false := by rw [beq_eq_false_iff_ne]; omega
        have t1 : ((j : Int) != (k : Int)) = true := by rw [bne, t0]; rfl
        have hEw := Ext.new (wr.alloc (.cells #[.slice a' x.1.length c', .int .i64 x.2] 60)) (.cells #[.slice a' x.1.length c', .int .i64 x.2] 60)
        have hsv : (wr.alloc (.cells #[.slice a' x.1.length c', .int .i64 x.2] 60)).heap.size = wr.heap.size + 1 := by simp
        have d0 := new0 (wr.alloc (.cells #[.slice a' x.1.length c', .int .i64 x.2] 60)) (.slice a' x.1.length c') [.int .i64 x.2] 60
        have d1 := new1 (wr.alloc (.cells #[.slice a' x.1.length c', .int .i64 x.2] 60)) (.slice a' x.1.length c') (.int .i64 x.2) [] 60
        rw [hsv] at d0 d1
        have hEa := hEv.trans hEw
        have hla := hl.ext hEa
        have hBa := hB.ext hEa
        have hra := hrd.out.app (fs := [(⟨a', x.1.length, c', x.1⟩, x.2)]) (fun e he => by
          rw [List.mem_singleton] at he
          subst he
          exact ⟨rfl, hc', hRx⟩)
        have hsza := Nat.le_trans hHs hEa.size
        have hro : ∀ q, v.ownBlock = some q → H ≤ q := fun q hq => (World.ownsRow.lt hl q hq).1
        have hWE : Hid (Ext wb ((wr.alloc (.cells #[.slice a' x.1.length c', .int .i64 x.2] 60)).alloc (.cells #[.slice a' x.1.length c', .int .i64 x.2] 60))) := hwr.trans hEa
        clear hx hb0 hb1 hjk b0 hEv hEw hsv hE1 hE2
        go_wp2_with (at_builtin; refine wpList_appV H _ rfl _ _ rfl v es (⟨a', x.1.length, c', x.1⟩, x.2) (wr.heap.size + 1) rfl hla hsza rfl d0 d1 (by omega) ?_; intro v' w4 hown4 hg4 hf4; have hB4 := hBa.grown hg4 (fun q hq => by have := hro q hq; omega); have hE4 : Ext wb w4 := Ext.grown hWE.out hg4 (fun q hq => by have := hro q hq; omega); have hw4 : Ext w w4 := Ext.grown (hw.trans hWE.out) hg4 (fun q hq => by have := hro q hq; omega); have z1 := hB4.fr 1; have g1 := hB4.cell 1 (by omega); rw [show boxF sz v 1 = v from rfl] at g1; have hs4 := Nat.le_trans hsza hg4.size; obtain ⟨av, nv, cv, rfl⟩ : ∃ av nv cv, v' = .slice av nv cv := (by rcases hown4.val with ⟨h, _⟩ | ⟨g9, c9, h, _⟩ <;> exact ⟨_, _, _, h⟩))
        have hOg : Only g w4 (w4.setCell ⟨g, 1, none⟩ (.slice av nv cv)) := (Only.refl g w4).setCell 1 _
        refine ⟨⟨j + 1, .slice av nv cv, es ++ [(⟨a', x.1.length, c', x.1⟩, x.2)], hj1, by go_num, ?_, ?_, ?_, HN, ?_, Only.ext hE4 hOg hgb⟩, by simp [intOf]; omega⟩
        · refine (hB4.set 1 (by omega) _).congr (fun o ho => ?_)
          match o, ho with
          | 0, _ => rfl
          | 1, _ => rfl
        · refine World.ownsRow.kept hown4 hOg ?_
          cases hv : (Value.slice av nv cv).ownBlock with
          | none => exact .inl rfl
          | some q =>
            refine .inr (fun e => ?_)
            injection e with e
            have := (World.ownsRow.lt hown4 q hv).1
            omega
        · exact hide hra
        · exact Nat.le_trans hs4 hOg.size
    · have HM : Hid (vtsOf es = vs.eraseIdx k) := hide (by rw [hmap.out, List.take_of_length_le (by omega)])
      have HL := hide hl
      have p1 := P1.out.ext hwr
      have r0 := p1.cell 0 (by simp)
      have r1 := p1.cell 1 (by simp)
      have z0 := p1.fr 0
      have z1 := p1.fr 1
      obtain ⟨av, nv, cv, rfl⟩ : ∃ av nv cv, v = .slice av nv cv := by
        rcases hl.val with ⟨h, _⟩ | ⟨g9, c9, h, _⟩
        · exact ⟨_, _, _, h⟩
        · exact ⟨_, _, _, h⟩
      have hww := hw.trans hwr
      have hp8 : w.heap.size + 1 < H := by omega
      clear hl hB p1 hmap hb0 hb1
      go_wp2
      have hO1 : Only (w.heap.size + 1) wr ((wr.setCell ⟨w.heap.size + 1, 0, none⟩ (.int .i64 sz)).setCell ⟨w.heap.size + 1, 1, none⟩ (.slice av nv cv)) := ((Only.refl _ wr).setCell 0 _).setCell 1 _
      have hEf : Ext w ((wr.setCell ⟨w.heap.size + 1, 0, none⟩ (.int .i64 sz)).setCell ⟨w.heap.size + 1, 1, none⟩ (.slice av nv cv)) := Only.ext hww hO1 (by omega)
      have hlf : RowsV ((wr.setCell ⟨w.heap.size + 1, 0, none⟩ (.int .i64 sz)).setCell ⟨w.heap.size + 1, 1, none⟩ (.slice av nv cv)) H (.slice av nv cv) es := by
        refine World.ownsRow.kept HL.out hO1 ?_
        cases hv : (Value.slice av nv cv).ownBlock with
        | none => exact .inl rfl
        | some q =>
          refine .inr (fun e => ?_)
          injection e with e
          have := (World.ownsRow.lt HL.out q hv).1
          omega
      refine bodyPost_ret (v := .agg #[.int .i64 sz, .slice av nv cv]) (by simp [results, Tryz.results75, go_sem, r0, r1]) rfl ⟨_, _, _, rfl, ?_, ?_, hEf⟩
      · rw [← HM.out]; unfold vtsOf; rw [List.length_map]; exact (RowsV.lenEq hlf).1
      · rw [← HM.out]; exact RowsV.rdR hlf (hrd.out.ext hEf)

set_option maxRecDepth 100000 in
set_option maxHeartbeats 4000000 in
theorem abs_spec (w : World) (rule sz : Int) (a : Option Addr) (c : Nat) (vs : List Vt) (hR : RdV w a vs) :
    Calls Tryz.prog 30 #[.int .i64 rule, .agg #[.int .i64 sz, .slice a vs.length c]] w fun e w' => e = .returned (.int .i64 (absO rule sz vs)) ∧ Ext w w' := by
  have q0 := new0 w (.int .i64 sz) [.slice a vs.length c] 29
  have q1 := new1 w (.int .i64 sz) (.slice a vs.length c) [] 29
  obtain ⟨ww, hww⟩ : ∃ ww, ww = winB rule sz vs := ⟨_, rfl⟩
  have HWB : Hid (∀ w', Ext w w' → Calls Tryz.prog 16 #[.int .i64 rule, .agg #[.int .i64 sz, .slice a vs.length c]] w' fun e w'' => e = .returned (.int .i64 ww) ∧ Ext w' w'') := fun w' hw' => by
    rw [hww]; exact winb_spec w' rule sz a c vs (hR.ext hw')
  by_cases h1 : ww < 0
  · have HF : Hid (absO rule sz vs = -1) := hide (by unfold absO; rw [← hww, if_pos h1])
    clear hww
    go_enter Tryz.func30, Tryz.ntmps30
    go_wp2_with (go_at_call 16; refine (HWB.out _ (by repeat (first | exact Ext.refl _ | assumption | refine Ext.alloc ?_ _ | refine Ext.drew ?_ | refine Ext.trans ?_ (by assumption)))).mono ?_; rintro e w1 ⟨rfl, hw1⟩; have q0 := Ext.keep (w' := w1) (by repeat (first | exact Ext.refl _ | assumption | refine Ext.alloc ?_ _ | refine Ext.drew ?_ | refine Ext.trans ?_ (by assumption))) q0; have q1 := Ext.keep (w' := w1) (by repeat (first | exact Ext.refl _ | assumption | refine Ext.alloc ?_ _ | refine Ext.drew ?_ | refine Ext.trans ?_ (by assumption))) q1)
    go_ret
    exact ⟨ret_int HF.out.symm, (by repeat (first | exact Ext.refl _ | assumption | refine Ext.alloc ?_ _ | refine Ext.drew ?_ | refine Ext.trans ?_ (by assumption)))⟩
  obtain ⟨h0, _, _⟩ := winB_pos (rule := rule) (sz := sz) (vs := vs) (by rw [← hww]; omega)
  have HF : Hid (absO rule sz vs = firstN vs.length (absQ rule sz vs ww)) := hide (by unfold absO; rw [← hww, if_neg h1])
  have H0 := hide h0
  have hvl := (prof_small h0).1
  clear hww h0
  go_enter Tryz.func30, Tryz.ntmps30
  go_wp2_with (go_at_call 16; refine (HWB.out _ (by repeat (first | exact Ext.refl _ | assumption | refine Ext.alloc ?_ _ | refine Ext.drew ?_ | refine Ext.trans ?_ (by assumption)))).mono ?_; rintro e w1 ⟨rfl, hw1⟩; have q0 := Ext.keep (w' := w1) (by repeat (first | exact Ext.refl _ | assumption | refine Ext.alloc ?_ _ | refine Ext.drew ?_ | refine Ext.trans ?_ (by assumption))) q0; have q1 := Ext.keep (w' := w1) (by repeat (first | exact Ext.refl _ | assumption | refine Ext.alloc ?_ _ | refine Ext.drew ?_ | refine Ext.trans ?_ (by assumption))) q1)
  have hw : Ext w w1 := (by repeat (first | exact Ext.refl _ | assumption | refine Ext.alloc ?_ _ | refine Ext.drew ?_ | refine Ext.trans ?_ (by assumption)))
  obtain ⟨wb, hwb⟩ : ∃ wb : World, wb = w1 := ⟨_, rfl⟩
  subst hwb
  have Q0 := q0
  have Q1 := q1
  clear hw1 HWB
  go_loopw [6, 7, 16] (fun _ _ i wr => ∃ k : Nat, k ≤ vs.length ∧ i = .int .i64 k ∧ Hid (∀ j, j < k → absQ rule sz vs ww j = false) ∧ Ext wb wr) (fun _ _ i _ => vs.length - (intOf i).toNat)
  case atStart => exact ⟨0, Nat.zero_le _, rfl, fun j hj => absurd hj (by omega), Ext.refl _⟩
  case round =>
    obtain ⟨k, hk, rfl, hno, hwr⟩ := hrel
    by_cases hkt : k < vs.length
    · obtain ⟨x, hx⟩ := at_of_lt hkt
      obtain ⟨b, off, a', c', rfl, c0, c1, hc', hRx⟩ := (hR.ext (hw.trans hwr)).at_ hx
      have hrl := rk_len ((prof_small H0.out).2 x (List.mem_of_getElem? hx)).1
      have hgd : vs.getD k ([], 0) = x := by simp [List.getD, hx]
      have e0 := new0 wr (.slice a' x.1.length c') [.int .i64 x.2] 60
      have e1 := new1 wr (.slice a' x.1.length c') (.int .i64 x.2) [] 60
      have hE := Ext.new wr (.cells #[.slice a' x.1.length c', .int .i64 x.2] 60)
      have q0 := hE.keep (hwr.keep Q0)
      have q1 := hE.keep (hwr.keep Q1)
      have hk1 : k + 1 ≤ vs.length := by omega
      obtain ⟨W, hW⟩ : ∃ W, W = winB rule sz (vs.eraseIdx k) := ⟨_, rfl⟩
      have HMQ : Hid (absQ rule sz vs ww k = prefB x.1 W ww) := hide (by unfold absQ; rw [hgd, hW])
      have hraw : Ext w (wr.alloc (.cells #[.slice a' x.1.length c', .int .i64 x.2] 60)) := (hw.trans hwr).trans hE
      have HWO : Hid (∀ w', Ext (wr.alloc (.cells #[.slice a' x.1.length c', .int .i64 x.2] 60)) w' → Calls Tryz.prog 75 #[.agg #[.int .i64 sz, .slice (some ⟨b, off, none⟩) vs.length c], .int .i64 k] w' fun e w'' => ∃ a2 m2 c2, e = .returned (.agg #[.int .i64 sz, .slice a2 m2 c2]) ∧ m2 = (vs.eraseIdx k).length ∧ RdV w'' a2 (vs.eraseIdx k) ∧ Ext w' w'') := fun w' hw' => wov_spec w' sz (some ⟨b, off, none⟩) c vs k (hR.ext (hraw.trans hw')) H0.out
      have HWI : Hid (∀ w' a3 n3 c3, n3 = (vs.eraseIdx k).length → RdV w' a3 (vs.eraseIdx k) → Calls Tryz.prog 16 #[.int .i64 rule, .agg #[.int .i64 sz, .slice a3 n3 c3]] w' fun e w'' => e = .returned (.int .i64 W) ∧ Ext w' w'') := fun w' a3 n3 c3 hn hR3 => by
        rw [hn, hW]; exact winb_spec w' rule sz a3 c3 _ hR3
      have HPF : Hid (∀ w', Ext (wr.alloc (.cells #[.slice a' x.1.length c', .int .i64 x.2] 60)) w' → Calls Tryz.prog 74 #[.slice a' x.1.length c', .int .i64 W, .int .i64 ww] w' fun e w'' => e = .returned (.bool (prefB x.1 W ww)) ∧ Ext w' w'') := fun w' hw' => pref_spec w' a' c' x.1 W ww (hRx.ext (hE.trans hw')) (by omega)
      have hwv : Ext wb (wr.alloc (.cells #[.slice a' x.1.length c', .int .i64 x.2] 60)) := hwr.trans hE
      clear hx hgd hW hrl hRx
      cases hp : prefB x.1 W ww
      all_goals
        rw [hp] at HPF HMQ
        go_wp2
        refine wp_region_O [0,1,2,3,4,7,5,6,8] (by kernel_rfl) rfl (by kernel_rfl) ?_
        repeat' (refine wpO_stepQ rfl (fun K hK => ?_)
                 go_simp
                 try (rw [if_neg (by intro h; simp [undef] at h)])
                 try split
                 all_goals
                   first
                   | (refine hK _ ?_
                      clear hK K)
                   | (apply Exists.intro
                      refine ⟨fun wq hwq => ?_, hK _ ?_⟩
                      · have hcq := hwq.cellS
                        go_simp
                        first
                        | exact ⟨Ext.refl _, rfl⟩
                      clear hK K))
        refine wpO_stepS rfl (by kernel_rfl) (fun K hK wq hwq => ?_)
        go_simp
        refine (HWO.out _ (by repeat (first | exact Ext.refl _ | assumption | refine Ext.alloc ?_ _ | refine Ext.drew ?_ | refine Ext.trans ?_ (by assumption)))).mono ?_
        rintro e w3 ⟨a2, m2, c2, rfl, hm2, hR2, hw3⟩
        refine ⟨hw3, hK _ _ ?_⟩
        clear hK K
        have HW := hide (fun w' (hw' : Ext w3 w') => HWI.out w' a2 m2 c2 hm2 (hR2.ext hw'))
        have hE3 : Ext (wr.alloc (.cells #[.slice a' x.1.length c', .int .i64 x.2] 60)) w3 := (by repeat (first | exact Ext.refl _ | assumption | refine Ext.alloc ?_ _ | refine Ext.drew ?_ | refine Ext.trans ?_ (by assumption)))
        have HPG := hide (fun w' (hw' : Ext w3 w') => HPF.out w' (hE3.trans hw'))
        clear hm2 hR2 hwq hw3
        repeat' (refine wpO_stepQ rfl (fun K hK => ?_)
                 go_simp
                 try (rw [if_neg (by intro h; simp [undef] at h)])
                 try split
                 all_goals
                   first
                   | (refine hK _ ?_
                      clear hK K)
                   | (apply Exists.intro
                      refine ⟨fun wq hwq => ?_, hK _ ?_⟩
                      · have hcq := hwq.cellS
                        go_simp
                        first
                        | exact ⟨Ext.refl _, rfl⟩
                        | exact ⟨Ext.refl _, HW.out _ (by repeat (first | exact Ext.refl _ | assumption | refine Ext.alloc ?_ _ | refine Ext.drew ?_ | refine Ext.trans ?_ (by assumption)))⟩
                      clear hK K))
        repeat' (refine wpO_stepQ rfl (fun K hK => ?_)
                 go_simp
                 try (rw [if_neg (by intro h; simp [undef] at h)])
                 try split
                 all_goals
                   first
                   | (refine hK _ ?_
                      clear hK K)
                   | (apply Exists.intro
                      refine ⟨fun wq hwq => ?_, hK _ ?_⟩
                      · have hcq := hwq.cellS
                        go_simp
                        first
                        | exact ⟨Ext.refl _, rfl⟩
                        | exact ⟨Ext.refl _, HPG.out _ (by repeat (first | exact Ext.refl _ | assumption | refine Ext.alloc ?_ _ | refine Ext.drew ?_ | refine Ext.trans ?_ (by assumption)))⟩
                      clear hK K))
        refine wpO_nil (fun wz hwz => ?_)
        go_wp2
      · have HN := none_succ hno.out HMQ.out
        exact ⟨⟨k + 1, hk1, by go_num, HN, hwv.trans (hE3.trans hwz)⟩, by simp [intOf]; omega⟩
      · have HR2 : Hid (firstN vs.length (absQ rule sz vs ww) = k) := firstN_some hkt hno.out HMQ.out
        go_ret
        exact ⟨ret_int (by rw [HF.out, HR2.out]), hw.trans (hwv.trans (hE3.trans hwz))⟩
    · have HN : Hid (firstN vs.length (absQ rule sz vs ww) = -1) := firstN_none (fun j hj => hno.out j (by omega))
      go_wp2
      go_ret
      exact ⟨ret_int (by rw [HF.out, HN.out]), hw.trans hwr⟩

end Go.Proofs.YtblkbdfndbpndaaGreat
