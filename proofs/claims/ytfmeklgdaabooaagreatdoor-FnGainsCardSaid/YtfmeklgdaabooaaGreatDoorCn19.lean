/- The pairs that are kept, of the program. The order that the kept pairs give, of the program. Weights of Borda and of veto, last places and winners by scores, of the program. Weights of Borda and of veto, and winners by scores, of the spec; the last one of a list. -/
import Derived.Test.YtfmeklgdaabooaaGreatDoorCn11
import Derived.Test.YtfmeklgdaabooaaGreatDoorCn8
import Derived.Test.YtfmeklgdaabooaaGreatDoorCn18
import Derived.Test.YtfmeklgdaabooaaGreatDoorCn9
import Derived.Test.YtfmeklgdaabooaaGreatDoorCn13
import Derived.Test.YtfmeklgdaabooaaGreatDoorCn7
import Derived.Test.YtfmeklgdaabooaaGreatDoorCn12
import Derived.Test.YtfmeklgdaabooaaGreatDoorCn16
import Derived.Test.YtfmeklgdaabooaaGreatDoorCn14
namespace Go.Proofs.YtfmeklgdaabooaaGreatDoor
open Go.RowKit

set_option maxRecDepth 100000 in
set_option maxHeartbeats 1000000 in
theorem leadsOne (kept : List (List Int)) (to : Int) (w : World) (a : Option Addr) (c g1 g2 g3 : Nat) (x y from_ : Int) (h1 : w.cell? ⟨g1, 0, none⟩ = some (.int .i64 from_)) (h2 : w.cell? ⟨g2, 0, none⟩ = some (.slice a kept.length c)) (h3 : w.cell? ⟨g3, 0, none⟩ = some (.int .i64 to))
    (a' : Option Addr) (n' c' : Nat) (hn : n' = 2) (hRx : RdI w a' [x, y])
    (ih : x = from_ → ∀ w', Ext w w' → Calls Tryz.prog 121 #[.slice a kept.length c, .int .i64 y, .int .i64 to] w' fun e w'' => e = .returned (.bool (wayB kept y to)) ∧ Ext w' w'') :
    Calls Tryz.prog 135 #[.slice a' n' c', .pointer (some ⟨g1, 0, none⟩), .pointer (some ⟨g2, 0, none⟩), .pointer (some ⟨g3, 0, none⟩)] w fun e w' => e = .returned (.bool (decide (x = from_) && wayB kept y to)) ∧ Ext w w' := by
  subst hn
  obtain ⟨b, off, rfl, c0, c1⟩ := hRx.two
  by_cases hx : x = from_
  · have HC := hide (ih hx)
    have t1 : (x == from_) = true := by rw [beq_iff_eq]; exact hx
    have t2 : decide (x = from_) = true := decide_eq_true hx
    clear ih hx hRx
    go_enter Tryz.func135, Tryz.ntmps135
    go_wp2
    refine wp_region_X (by kernel_rfl) (by kernel_rfl) ?_
    repeat' (refine wpX_stepQ (fun K hK => ?_)
             go_simp
             try (rw [if_neg (by intro h; simp [undef] at h)])
             try split
             all_goals
               first
               | (refine hK _ ?_
                  clear hK K)
               | (apply Exists.intro
                  refine ⟨fun wq hwq => ?_, hK _ ?_⟩
                  · have hcq := hwq.cellS
                    go_simp
                    first
                    | exact ⟨Ext.refl _, rfl⟩
                    | exact ⟨Ext.refl _, HC.out _ (by repeat (first | exact Ext.refl _ | assumption | refine Ext.alloc ?_ _ | refine Ext.drew ?_ | refine Ext.trans ?_ (by assumption)))⟩
                  clear hK K))
    refine wpX_nil (fun wz hwz => ?_)
    go_wp2
    go_ret
    exact ⟨ret_bool (by simp [t2]), hwz⟩
  · have t1 : (x == from_) = false := by rw [beq_eq_false_iff_ne]; exact hx
    have t2 : decide (x = from_) = false := decide_eq_false hx
    clear ih hx hRx
    go_enter Tryz.func135, Tryz.ntmps135
    go_wp2
    refine wp_region_X (by kernel_rfl) (by kernel_rfl) ?_
    repeat' (refine wpX_stepQ (fun K hK => ?_)
             go_simp
             try (rw [if_neg (by intro h; simp [undef] at h)])
             try split
             all_goals
               first
               | (refine hK _ ?_
                  clear hK K)
               | (apply Exists.intro
                  refine ⟨fun wq hwq => ?_, hK _ ?_⟩
                  · have hcq := hwq.cellS
                    go_simp
                    first
                    | exact ⟨Ext.refl _, rfl⟩
                  clear hK K))
    refine wpX_nil (fun wz hwz => ?_)
    go_wp2
    go_ret
    exact ⟨ret_bool (by simp [t2]), hwz⟩

set_option maxRecDepth 100000 in
set_option maxHeartbeats 1000000 in
theorem leads_impl (kept : List (List Int)) (r : Int → Nat) (hr : ∀ x ∈ kept, r (p1 x) < r (p0 x)) (hp : ∀ x ∈ kept, ∃ y z : Int, x = [y, z]) (hl : kept.length ≤ 1000) (to : Int) : ∀ (k : Nat) (from_ : Int) (w : World) (B : Nat) (a : Option Addr) (c : Nat), r from_ < k →
    RdSS w B (.slice a kept.length c) kept → Calls Tryz.prog 121 #[.slice a kept.length c, .int .i64 from_, .int .i64 to] w fun e w' => e = .returned (.bool (wayB kept from_ to)) ∧ Ext w w' := by
  intro k
  induction k with
  | zero => intro from_ w B a c h; omega
  | succ k ih =>
    intro from_ w B a c hk hR
    have IH := hide ih
    have HR := hide hr
    have HP := hide hp
    clear ih hr hp
    by_cases he : from_ = to
    · have t1 : (from_ == to) = true := by rw [beq_iff_eq]; exact he
      have HW := hide (show wayB kept from_ to = true by rw [he]; exact wayB_self _ _)
      clear he
      go_enter Tryz.func121, Tryz.ntmps121
      go_wp2
      go_ret
      exact ⟨ret_bool HW.out.symm, (by repeat (first | exact Ext.refl _ | assumption | refine Ext.alloc ?_ _ | refine Ext.drew ?_ | refine Ext.trans ?_ (by assumption)))⟩
    · have t1 : (from_ == to) = false := by rw [beq_eq_false_iff_ne]; exact he
      have HW := hide (wayB_step (kept := kept) he)
      clear he
      have E1 := Ext.new w (.cells #[.slice a kept.length c] 50)
      have f1 := new0 w (.slice a kept.length c) [] 50
      obtain ⟨w1, hw1⟩ : ∃ w1, w1 = w.alloc (.cells #[.slice a kept.length c] 50) := ⟨_, rfl⟩
      have hs1 : w1.heap.size = w.heap.size + 1 := by rw [hw1]; simp
      have f2 := new0 w1 (.int .i64 from_) [] 3
      have E2 := Ext.new w1 (.cells #[.int .i64 from_] 3)
      obtain ⟨w2, hw2⟩ : ∃ w2, w2 = w1.alloc (.cells #[.int .i64 from_] 3) := ⟨_, rfl⟩
      have hs2 : w2.heap.size = w.heap.size + 1 + 1 := by rw [hw2]; simp [hs1]
      have f3 := new0 w2 (.int .i64 to) [] 3
      have E3 := Ext.new w2 (.cells #[.int .i64 to] 3)
      rw [← hw1] at f1 E1
      rw [hs1, ← hw2] at f2
      rw [← hw2] at E2
      rw [hs2] at f3
      have f1 := E3.keep (E2.keep f1)
      have f2 := E3.keep f2
      have hE := E1.trans (E2.trans E3)
      have hR3 := hR.ext hE
      rw [hw2, hw1] at f1 f2 f3 hE hR3
      have HC := hide (containsFuncR 135 #[] #[.pointer (some ⟨w.heap.size + 1, 0, none⟩), .pointer (some ⟨w.heap.size, 0, none⟩), .pointer (some ⟨w.heap.size + 1 + 1, 0, none⟩)] (fun x => decide (p0 x = from_) && wayB kept (p1 x) to) _ B a c kept hR3 (by omega) Tryz.call135
        (fun xs a' c' w' hx hRx hw' => by
          obtain ⟨y, z, rfl⟩ := HP.out xs hx
          refine leadsOne kept to w' a c (w.heap.size + 1) w.heap.size (w.heap.size + 1 + 1) y z from_ (hw'.keep f2) (hw'.keep f1) (hw'.keep f3) a' _ c' rfl hRx (fun e w'' hw'' => ?_)
          have h1 := HR.out [y, z] hx
          refine IH.out z w'' B a c ?_ (hR3.ext (hw'.trans hw''))
          have h2 : r z < r y := h1
          rw [e] at h2
          omega))
      clear f1 f2 f3 hE hR3 E1 E2 E3 hw1 hw2 hs1 hs2 IH HR HP hk
      go_enter Tryz.func121, Tryz.ntmps121
      go_wp2_with fail
      refine HC.out.mono ?_
      rintro e w3 ⟨rfl, hw3⟩
      go_wp2
      go_ret
      exact ⟨ret_bool HW.out.symm, (by repeat (first | exact Ext.refl _ | assumption | refine Ext.alloc ?_ _ | refine Ext.drew ?_ | refine Ext.trans ?_ (by assumption)))⟩

set_option maxRecDepth 100000 in
set_option maxHeartbeats 1000000 in
theorem lokOne (w : World) (g n : Nat) (a : Option Addr) (c : Nat) (vs : List Vt) (ax ay : Option Addr) (nx ny cx cy : Nat) (x0 x1 y0 y1 : Int) (h0 : w.cell? ⟨g, 0, none⟩ = some (.int .i64 n)) (h1 : w.cell? ⟨g, 1, none⟩ = some (.slice a vs.length c)) (hR : RdV w a vs) (hS : SmallV n vs)
    (hnx : nx = 2) (hny : ny = 2) (hX : RdI w ax [x0, x1]) (hY : RdI w ay [y0, y1]) :
    Calls Tryz.prog 120 (#[] ++ (#[.slice ax nx cx, .slice ay ny cy] ++ #[.pointer (some ⟨g, 0, none⟩)])) w fun e w' => e = .returned (.int .i64 (marginV vs y0 y1 - marginV vs x0 x1)) ∧ Ext w w' := by
  subst hnx
  subst hny
  obtain ⟨bx, ox, rfl, c0, c1⟩ := hX.two
  obtain ⟨b2, o2, rfl, d0, d1⟩ := hY.two
  have b1 : 0 ≤ pairV vs x0 x1 ∧ pairV vs x0 x1 ≤ 24000 := sumV_bd' hS
  have b2' : 0 ≤ pairV vs x1 x0 ∧ pairV vs x1 x0 ≤ 24000 := sumV_bd' hS
  have b3 : 0 ≤ pairV vs y0 y1 ∧ pairV vs y0 y1 ≤ 24000 := sumV_bd' hS
  have b4 : 0 ≤ pairV vs y1 y0 ∧ pairV vs y1 y0 ≤ 24000 := sumV_bd' hS
  have y2 : IntKind.i64.wrap (marginV vs y0 y1 - marginV vs x0 x1) = marginV vs y0 y1 - marginV vs x0 x1 := IntWalk.i64_in _ (by unfold marginV; omega)
  have HS := hide hS
  clear hS b1 b2' b3 b4 hX hY
  show Calls Tryz.prog 120 #[.slice (some ⟨bx, ox, none⟩) 2 cx, .slice (some ⟨b2, o2, none⟩) 2 cy, .pointer (some ⟨g, 0, none⟩)] w _
  go_enter Tryz.func120, Tryz.ntmps120
  go_wp2
  refine wp_region_X (by kernel_rfl) (by kernel_rfl) ?_
  repeat' (refine wpX_stepQ (fun K hK => ?_)
           go_simp
           try (rw [if_neg (by intro h; simp [undef] at h)])
           try split
           all_goals
             first
             | (refine hK _ ?_
                clear hK K)
             | (apply Exists.intro
                refine ⟨fun wq hwq => ?_, hK _ ?_⟩
                · have hcq := hwq.cellS
                  go_simp
                  first
                  | exact ⟨Ext.refl _, rfl⟩
                  | exact ⟨Ext.refl _, margin_impl _ _ _ _ _ _ _ (hR.ext (by repeat (first | exact Ext.refl _ | assumption | refine Ext.alloc ?_ _ | refine Ext.drew ?_ | refine Ext.trans ?_ (by assumption)))) HS.out⟩
                clear hK K))
  refine wpX_nil (fun wz hwz => ?_)
  go_wp2
  go_ret
  exact ⟨rfl, hwz⟩

set_option maxRecDepth 100000 in
set_option maxHeartbeats 1000000 in
theorem insR_none (w : World) (K : Nat) (fst cap : Array Value) :
    Calls Tryz.prog 145 #[.slice none 0 0, .int .i64 0, .int .i64 0, .func (.func K) fst cap] w fun e w' => e = .returned (.tuple #[]) ∧ Ext w w' := by
  go_enter Tryz.func145, Tryz.ntmps145
  go_wp2_with fail
  go_loopw [8, 9] (fun i _ wr => i = .int .i64 1 ∧ Ext w wr) (fun _ _ _ => 0)
  case atStart => exact ⟨rfl, Ext.refl _⟩
  case round =>
    obtain ⟨rfl, hwr⟩ := hrel
    go_wp2
    go_end0
    exact ⟨rfl, hwr⟩

set_option maxRecDepth 100000 in
set_option maxHeartbeats 1000000 in
theorem stbR_none (w : World) (K : Nat) (fst cap : Array Value) :
    Calls Tryz.prog 134 #[.slice none 0 0, .int .i64 0, .func (.func K) fst cap] w fun e w' => e = .returned (.tuple #[]) ∧ Ext w w' := by
  go_enter Tryz.func134, Tryz.ntmps134
  go_wp2_with fail
  go_loopw [7, 8] (fun a b wr => a = .int .i64 0 ∧ b = .int .i64 20 ∧ Ext w wr) (fun _ _ _ => 0)
  case atStart => exact ⟨rfl, rfl, Ext.refl _⟩
  case round =>
    obtain ⟨rfl, rfl, hwr⟩ := hrel
    go_wp2_with fail
    refine (insR_none _ K fst cap).mono ?_
    rintro e w1 ⟨rfl, hw1⟩
    have hE := hwr.trans hw1
    clear hwr hw1
    go_wp2_with fail
    go_loopw [6, 7, 8, 9] (fun s _ _ _ wq => s = .int .i64 20 ∧ Ext w wq) (fun _ _ _ _ _ => 0)
    case atStart => exact ⟨rfl, hE⟩
    case round =>
      clear hE
      obtain ⟨rfl, hwr⟩ := hrel
      go_wp2
      go_end0
      exact ⟨rfl, hwr⟩

set_option maxRecDepth 100000 in
set_option maxHeartbeats 1000000 in
theorem stabR_none (w : World) (K : Nat) (fst cap : Array Value) :
    Calls Tryz.prog 119 #[.slice none 0 0, .func (.func K) fst cap] w fun e w' => e = .returned (.tuple #[]) ∧ Ext w w' := by
  go_enter Tryz.func119, Tryz.ntmps119
  go_wp2_with fail
  refine (stbR_none _ K fst cap).mono ?_
  rintro e w1 ⟨rfl, hw1⟩
  go_wp2
  go_end0
  exact ⟨rfl, hw1⟩

set_option maxRecDepth 100000 in
set_option maxHeartbeats 8000000 in
theorem lokPairs_impl (w : World) (n : Nat) (a : Option Addr) (c : Nat) (vs : List Vt) (hR : RdV w a vs) (h0 : profOk n vs = true) (n2 : n ≤ 5) :
    Calls Tryz.prog 91 #[.agg #[.int .i64 n, .slice a vs.length c]] w fun e w' => ∃ v, e = .returned v ∧ OwnSS w' w.heap.size v (lokO n vs) ∧ Ext w w' := by
  have q0 := new0 w (.int .i64 n) [.slice a vs.length c] 26
  have q1 := new1 w (.int .i64 n) (.slice a vs.length c) [] 26
  have HS := hide (prof_small h0)
  have HL0 : Hid (lokO n vs = lockL (srtP n vs)) := hide (by simp [lokO, h0])
  have hnn : n * n ≤ 5 * 5 := Nat.mul_le_mul n2 n2
  go_enter Tryz.func91, Tryz.ntmps91
  go_wp2_with (go_at_call 25; refine (prof_impl _ _ _ _ _ (hR.ext (by repeat (first | exact Ext.refl _ | assumption | refine Ext.alloc ?_ _ | refine Ext.drew ?_ | refine Ext.trans ?_ (by assumption))))).mono ?_; rintro e w1 ⟨rfl, hw1⟩; have q0 := Ext.keep (w' := w1) (by repeat (first | exact Ext.refl _ | assumption | refine Ext.alloc ?_ _ | refine Ext.drew ?_ | refine Ext.trans ?_ (by assumption))) q0; have q1 := Ext.keep (w' := w1) (by repeat (first | exact Ext.refl _ | assumption | refine Ext.alloc ?_ _ | refine Ext.drew ?_ | refine Ext.trans ?_ (by assumption))) q1)
  have hw : Ext w w1 := (by repeat (first | exact Ext.refl _ | assumption | refine Ext.alloc ?_ _ | refine Ext.drew ?_ | refine Ext.trans ?_ (by assumption)))
  have hlow : w.heap.size < w1.heap.size := World.block_lt_of_cell? w1 _ q0
  obtain ⟨wb, hwb⟩ : ∃ wb : World, wb = w1 := ⟨_, rfl⟩
  subst hwb
  have hRb := hR.ext hw
  clear hw1
  go_loopw [3, 4, 5, 14, 18, 19] (fun v _ _ i _ _ wr => ∃ (j : Nat) (es : List RowE), j ≤ n ∧ i = .int .i64 j ∧ LstE wr wb.heap.size v es ∧ Hid (es.map RowE.xs = prAll n vs j) ∧ Ext wb wr) (fun _ _ _ i _ _ _ => n - (intOf i).toNat)
  case atStart => exact ⟨0, [], Nat.zero_le _, rfl, LstE.nil _ _, rfl, Ext.refl _⟩
  case round =>
    obtain ⟨j, es, hj, rfl, hown, hmap, hwr⟩ := hrel
    have r0 := hwr.keep q0
    have r1 := hwr.keep q1
    by_cases hjt : j < n
    · have hjn : j * n ≤ 4 * n := Nat.mul_le_mul_right _ (by omega)
      have HM0 : Hid (es.map RowE.xs = prAll n vs j ++ prRow vs j 0) := hide (by rw [hmap.out]; simp [prRow])
      go_wp2
      go_loopw [3, 5, 19] (fun v _ i wr => ∃ (k : Nat) (es : List RowE), k ≤ n ∧ i = .int .i64 k ∧ LstE wr wb.heap.size v es ∧ Hid (es.map RowE.xs = prAll n vs j ++ prRow vs j k) ∧ Ext wb wr) (fun _ _ i _ => n - (intOf i).toNat)
      case atStart => exact ⟨0, es, Nat.zero_le _, rfl, hown, HM0, hwr⟩
      case round =>
        clear hown hmap hwr r0 r1 HM0 es
        obtain ⟨k, es, hk, rfl, hown, hmap, hwr⟩ := hrel
        have r0 := hwr.keep q0
        have r1 := hwr.keep q1
        have hRr := hRb.ext hwr
        have hel : es.length ≤ 100 := by
          have h1 := prAll_len n vs j
          have h2 := prRow_len vs j k
          have h3 := congrArg List.length hmap.out
          rw [List.length_map, List.length_append] at h3
          omega
        by_cases hkt : k < n
        · have HO := hide hown
          clear hown
          cases hb : beatsV vs j k
          · go_wp2_with (go_at_call 79; refine (beats_impl _ _ _ _ _ _ _ (hRr.ext (by repeat (first | exact Ext.refl _ | assumption | refine Ext.alloc ?_ _ | refine Ext.drew ?_ | refine Ext.trans ?_ (by assumption)))) HS.out).mono ?_; rintro e w1 ⟨rfl, hw1⟩)
            exact ⟨⟨k + 1, es, by omega, by go_num, HO.out.ext hw1, hide (by rw [hmap.out]; simp [prRow, hb]), hwr.trans hw1⟩, by simp [intOf]; omega⟩
          · go_wp2_with (first
              | (go_at_call 79; refine (beats_impl _ _ _ _ _ _ _ (hRr.ext (by repeat (first | exact Ext.refl _ | assumption | refine Ext.alloc ?_ _ | refine Ext.drew ?_ | refine Ext.trans ?_ (by assumption)))) HS.out).mono ?_; rintro e w1 ⟨rfl, hw1⟩)
              | (at_builtin; go_loud (refine wpList_pushE wb wr _ rfl (.tmp 26) (.tmp 30) rfl _ es ⟨some ⟨w1.heap.size, 0, none⟩, 2, 2, [(j : Int), (k : Int)]⟩ rfl (by exact HO.out) hwr (hw1.alloc _) (by exact (OwnI.lit2 w1 j k).base hw1.size) (w1.heap.size + 1) (by simp) rfl (by omega) ?_); intro v' w4 hown4 hw4))
            exact ⟨⟨k + 1, _, by omega, by go_num, hown4, hide (by rw [List.map_append, hmap.out]; simp [prRow, hb]), hw4⟩, by simp [intOf]; omega⟩
        · have hkn : k = n := by omega
          have HM1 : Hid (es.map RowE.xs = prAll n vs (j + 1)) := hide (by rw [hmap.out, hkn]; simp [prAll])
          go_wp2
          exact ⟨⟨j + 1, es, by omega, by go_num, hown, HM1, hwr⟩, by simp [intOf]; omega⟩
    · have hjn : j = n := by omega
      have HM1 : Hid (es.map RowE.xs = prAll n vs n) := hide (by rw [hmap.out, hjn])
      have HP : Hid (∀ e ∈ es, ∃ x y : Int, e.xs = [x, y]) := fun e he => by
        have h1 : e.xs ∈ es.map RowE.xs := List.mem_map_of_mem he
        rw [HM1.out] at h1
        obtain ⟨x, y, _, _, h2⟩ := (prAll_mem n (Nat.le_refl _) _ h1).1
        exact ⟨x, y, h2⟩
      have hel : es.length ≤ 10 := by
        have h1 := prAll_ten n2 vs
        rw [← HM1.out, List.length_map] at h1
        exact h1
      clear hmap hjn
      have hlw : w.heap.size < wr.heap.size := Nat.lt_of_lt_of_le hlow hwr.size
      have hwwr := hw.trans hwr
      obtain ⟨hrows, hent⟩ := hown
      obtain ⟨K, hK⟩ : ∃ K : RowE → Int, K = fun e => margP vs e.xs := ⟨_, rfl⟩
      have hmS : (sortD K es).map RowE.xs = srtP n vs := by rw [hK, sortD_map RowE.xs (margP vs) es, HM1.out]; rfl
      have HMS := hide hmS
      have HPM : Hid ((sortD K es).Perm es) := sortD_perm K es
      have HSL : Hid ((sortD K es).length = es.length) := sortD_len K es
      have hes0 := hent
      have HENT := hide hes0
      clear hmS hes0
      -- what stands after the sort
      have HSO : Hid (∀ v, RowsE wr wb.heap.size v es → Calls Tryz.prog 119 #[v, .func (.func 120) #[] #[.pointer (some ⟨w.heap.size, 0, none⟩)]] wr fun e w' => e = .returned (.tuple #[]) ∧
          Ext wb w' ∧ EntE w' wb.heap.size (sortD K es) ∧ ∃ a' c', v = .slice a' es.length c' ∧ RdE w' a' (sortD K es)) := fun v hv => by
        rcases hv.two with ⟨rfl, he⟩ | ⟨g, cc, rfl, hcc, hg, hB⟩
        · refine (stabR_none wr 120 #[] #[.pointer (some ⟨w.heap.size, 0, none⟩)]).mono ?_
          rintro e w' ⟨rfl, hw'⟩
          subst he
          exact ⟨rfl, hwr.trans hw', EntE.nil _ _, none, 0, rfl, RdE.nil _ _⟩
        · refine (stabR_impl 120 #[] #[.pointer (some ⟨w.heap.size, 0, none⟩)] K (fun x y => margP vs y.xs - margP vs x.xs) wr g es.length cc es rfl (by omega) hB Tryz.call120
            (fun x y => by rw [hK]; show margP vs y.xs - margP vs x.xs < 0 ↔ margP vs y.xs < margP vs x.xs; omega)
            (fun x y w' hx hy hO => by
              have hxw := (HENT.out.only hO (fun e he => by
                rcases rows_ne hv HENT.out e he with h | h
                · rw [h]; simp
                · exact h))
              have e1 := hxw.rd hx
              have e2 := hxw.rd hy
              obtain ⟨x0, x1, hx1⟩ := HP.out x hx
              obtain ⟨y0, y1, hy1⟩ := HP.out y hy
              rw [hx1] at e1
              rw [hy1] at e2
              rw [hx1, hy1]
              exact lokOne w' w.heap.size n a c vs x.a y.a x.n y.n x.c y.c x0 x1 y0 y1 (hO.keep (by show w.heap.size ≠ g; omega) r0) (hO.keep (by show w.heap.size ≠ g; omega) r1) (hR.ext (Only.ext hwwr hO (by omega))) HS.out e1.2 e2.2 e1.1 e2.1)).mono ?_
          rintro e w' ⟨rfl, hB2, hO⟩
          refine ⟨rfl, Only.ext hwr hO hg, ((HENT.out.only hO (fun e he => by
                rcases rows_ne hv HENT.out e he with h | h
                · rw [h]; simp
                · exact h)).perm HPM.out), some ⟨g, 0, none⟩, cc, rfl, fun hne => ⟨g, 0, rfl, fun j e he => ?_⟩⟩
          rw [Nat.zero_add, hB2.cell j (by have := lt_of_at he; rw [HSL.out] at this; exact this), memF_at he]
      have hSO := HSO.out _ hrows
      have HS2 := hide hSO
      clear HSO hSO hrows hent HENT r0 r1 hwwr hlw
      go_wp2_with fail
      refine HS2.out.mono ?_
      rintro e w2 ⟨rfl, hw2, hent, a', c', rfl, hRE⟩
      rw [← HSL.out]
      have HSN : Hid ((sortD K es).length ≤ 25) := hide (by rw [HSL.out]; omega)
      generalize sortD K es = ES at hent hRE HMS HSN ⊢
      have HPE : Hid (∀ e ∈ ES, ∃ x y : Int, e.xs = [x, y]) := fun e he => by
        have h1 : e.xs ∈ ES.map RowE.xs := List.mem_map_of_mem he
        rw [HMS.out] at h1
        obtain ⟨x, y, _, _, h2⟩ := (srtP_mem h1).1
        exact ⟨x, y, h2⟩
      have HML : Hid ((ES.map RowE.xs).length = ES.length) := List.length_map _
      have HR : Hid (∀ k, k ≤ ES.length → Ranked (lockL ((ES.map RowE.xs).take k))) := fun k hk => lockL_ranked _ k (by rw [HML.out]; exact hk)
      have HE := hide hent
      have hE9 := hRE
      have HRE := hide hE9
      clear hent hRE hE9 HS2 HSL HPM hK HM1 HP hel hwr hj
      obtain ⟨wc, hwc⟩ : ∃ wc : World, wc = w2 := ⟨_, rfl⟩
      subst hwc
      go_wp2_with fail
      go_loopw [6, 8, 39] (fun v _ i wr => ∃ (k : Nat) (ks : List RowE), k ≤ ES.length ∧ i = .int .i64 k ∧ RowsE wr wc.heap.size v ks ∧ Hid (ks.Sublist (ES.take k)) ∧ Hid (ks.map RowE.xs = lockL ((ES.map RowE.xs).take k)) ∧ Ext wc wr) (fun _ _ i _ => ES.length - (intOf i).toNat)
      case atStart => exact ⟨0, [], Nat.zero_le _, rfl, RowsE.nil _ _, hide (by simp), hide (by simp [lockL]), Ext.refl _⟩
      case round =>
        obtain ⟨k, ks, hk, rfl, hrows, hsub, hmap, hwr⟩ := hrel
        have hSN := HSN.out
        by_cases hkt : k < ES.length
        · obtain ⟨e, he⟩ := at_of_lt hkt
          have hem := List.mem_of_getElem? he
          have hEr := HE.out.ext hwr
          obtain ⟨b, off, rfl, hcell⟩ := HRE.out (ne_of_at he)
          have d0 := hwr.keep (hcell k e he)
          obtain ⟨x, y, hxy⟩ := HPE.out e hem
          have hRx := (hEr.rd hem).1
          have hnx := (hEr.rd hem).2
          rw [hxy] at hRx hnx
          have hat : (ES.map RowE.xs)[k]? = some [x, y] := by rw [List.getElem?_map, he, Option.map_some, hxy]
          have HLK := hide (lockL_at hat)
          have hTK : ES.take (k + 1) = ES.take k ++ [e] := take_at he
          have HTK := hide hTK
          have hkl : ks.length ≤ 25 := by
            have h1 := hsub.out.length_le
            rw [List.length_take] at h1
            omega
          have hOS := RowsE.own (hrows.base hw2.size) (hEr.sub (hsub.out.trans (List.take_sublist k ES)))
          obtain ⟨ak, ck, rfl, hck, hju⟩ := (show ∃ ak ck, _ = Value.slice ak ks.length ck ∧ ks.length ≤ ck ∧ True by
            obtain ⟨a1, c1, h1, h2, _⟩ := hrows.val
            exact ⟨a1, c1, h1, h2, trivial⟩)
          have hRd := hOS.wr.rd
          rw [hmap.out] at hRd
          have hkn : (lockL ((ES.map RowE.xs).take k)).length = ks.length := by rw [← hmap.out, List.length_map]
          obtain ⟨r, hr⟩ := HR.out k hk
          have hpr : ∀ x ∈ lockL ((ES.map RowE.xs).take k), ∃ y z : Int, x = [y, z] := fun x hx => by
            rw [← hmap.out] at hx
            obtain ⟨e', he', rfl⟩ := List.mem_map.1 hx
            exact HPE.out e' (List.mem_of_mem_take (hsub.out.subset he'))
          have hcall := fun w' (hw' : Ext wr w') => leads_impl (lockL ((ES.map RowE.xs).take k)) r hr hpr (by rw [hkn]; omega) x (r y + 1) y w' _ ak ck (Nat.lt_succ_self _) (by rw [hkn]; exact hRd.ext hw')
          rw [hkn] at hcall
          have HC := hide hcall
          have hw0 : p1 [x, y] = y := rfl
          have hw1 : p0 [x, y] = x := rfl
          unfold lockS at HLK
          rw [hw0, hw1] at HLK
          clear hcall hRd hju hr hpr hkn hOS hat hTK hw0 hw1
          obtain ⟨b1, o1, hb1, d1, d2⟩ := hRx.two
          rw [rowV, hb1, hnx] at d0
          have HRW := hide hrows
          clear hrows
          cases hq : wayB (lockL ((ES.map RowE.xs).take k)) y x
          · rw [hq, if_neg (by decide)] at HLK
            rw [hq] at HC
            go_wp2
            refine wp_region_X (by kernel_rfl) (by kernel_rfl) ?_
            repeat' (refine wpX_stepQ (fun K hK => ?_)
                     go_simp
                     try (rw [if_neg (by intro h; simp [undef] at h)])
                     try split
                     all_goals
                       first
                       | (refine hK _ ?_
                          clear hK K)
                       | (apply Exists.intro
                          refine ⟨fun wq hwq => ?_, hK _ ?_⟩
                          · have hcq := hwq.cellS
                            go_simp
                            first
                            | exact ⟨Ext.refl _, rfl⟩
                            | exact ⟨Ext.refl _, HC.out _ (by repeat (first | exact Ext.refl _ | assumption | refine Ext.alloc ?_ _ | refine Ext.drew ?_ | refine Ext.trans ?_ (by assumption)))⟩
                          clear hK K))
            refine wpX_nil (fun wz hwz => ?_)
            have hbx := RdE.box wz e
            unfold rowV at hbx
            rw [hb1, hnx] at hbx
            have hE5 := hwz.alloc (.cells #[.slice (some ⟨b1, o1, none⟩) 2 e.c] 28)
            have hrz := HRW.out.ext hE5
            have hwz5 := hwr.trans hE5
            go_wp2_with (at_builtin; go_loud (refine wpList_appE wc.heap.size _ rfl (.tmp 52) (.tmp 54) rfl _ ks [e] rfl (by exact hrz) hwz5.size _ _ _ rfl rfl hbx (by simp; omega) ?_); intro v' w4 h4 hg4 _)
            have hE6 : Ext wc w4 := Ext.grown hwz5 hg4 (ownsRow_block hrz)
            exact ⟨⟨k + 1, ks ++ [e], by omega, by go_num, h4, hide (by rw [HTK.out]; exact hsub.out.append (List.Sublist.refl _)), hide (by rw [HLK.out, List.map_append, hmap.out]; simp [hxy]), hE6⟩, by simp [intOf]; omega⟩
          · rw [hq, if_pos rfl] at HLK
            rw [hq] at HC
            go_wp2
            refine wp_region_X (by kernel_rfl) (by kernel_rfl) ?_
            repeat' (refine wpX_stepQ (fun K hK => ?_)
                     go_simp
                     try (rw [if_neg (by intro h; simp [undef] at h)])
                     try split
                     all_goals
                       first
                       | (refine hK _ ?_
                          clear hK K)
                       | (apply Exists.intro
                          refine ⟨fun wq hwq => ?_, hK _ ?_⟩
                          · have hcq := hwq.cellS
                            go_simp
                            first
                            | exact ⟨Ext.refl _, rfl⟩
                            | exact ⟨Ext.refl _, HC.out _ (by repeat (first | exact Ext.refl _ | assumption | refine Ext.alloc ?_ _ | refine Ext.drew ?_ | refine Ext.trans ?_ (by assumption)))⟩
                          clear hK K))
            refine wpX_nil (fun wz hwz => ?_)
            go_wp2
            exact ⟨⟨k + 1, ks, by omega, by go_num, HRW.out.ext hwz, hide (by rw [HTK.out]; exact hsub.out.trans (List.sublist_append_left _ _)), hide (by rw [HLK.out, hmap.out]), hwr.trans hwz⟩, by simp [intOf]; omega⟩
        · have hkn : k = ES.length := by omega
          have HF : Hid (ks.map RowE.xs = lokO n vs) := hide (by rw [hmap.out, HL0.out, ← HMS.out, hkn, List.take_of_length_le (by rw [HML.out]; exact Nat.le_refl _)])
          have hOS := RowsE.own (hrows.base hw2.size) ((HE.out.ext hwr).sub (hsub.out.trans (List.take_sublist k ES)))
          rw [HF.out] at hOS
          go_wp2
          go_ret
          exact ⟨_, rfl, hOS.base hw.size, hw.trans (hw2.trans hwr)⟩

set_option maxRecDepth 100000 in
set_option maxHeartbeats 1000000 in
theorem lok_impl (w : World) (sz : Int) (a : Option Addr) (c : Nat) (vs : List Vt) (hR : RdV w a vs) :
    Calls Tryz.prog 91 #[.agg #[.int .i64 sz, .slice a vs.length c]] w fun e w' => ∃ v, e = .returned v ∧ OwnSS w' w.heap.size v (lokO sz vs) ∧ Ext w w' := by
  have q0 := new0 w (.int .i64 sz) [.slice a vs.length c] 26
  have q1 := new1 w (.int .i64 sz) (.slice a vs.length c) [] 26
  cases h0 : profOk sz vs
  · go_enter Tryz.func91, Tryz.ntmps91
    go_wp2_with (go_at_call 25; refine (prof_impl _ _ _ _ _ (hR.ext (by repeat (first | exact Ext.refl _ | assumption | refine Ext.alloc ?_ _ | refine Ext.drew ?_ | refine Ext.trans ?_ (by assumption))))).mono ?_; rintro e w1 ⟨rfl, hw1⟩; have q0 := Ext.keep (w' := w1) (by repeat (first | exact Ext.refl _ | assumption | refine Ext.alloc ?_ _ | refine Ext.drew ?_ | refine Ext.trans ?_ (by assumption))) q0; have q1 := Ext.keep (w' := w1) (by repeat (first | exact Ext.refl _ | assumption | refine Ext.alloc ?_ _ | refine Ext.drew ?_ | refine Ext.trans ?_ (by assumption))) q1)
    go_ret
    exact ⟨_, rfl, by simp [lokO, h0]; exact OwnSS.nil _ _, (by repeat (first | exact Ext.refl _ | assumption | refine Ext.alloc ?_ _ | refine Ext.drew ?_ | refine Ext.trans ?_ (by assumption)))⟩
  obtain ⟨n, rfl, n1, n2⟩ := prof_nat h0
  exact lokPairs_impl w n a c vs hR h0 n2

set_option maxRecDepth 100000 in
set_option maxHeartbeats 1000000 in
theorem prkIn (w : World) (a' : Option Addr) (n' c' : Nat) (hn : n' = 2) (p q j : Int) (g1 g2 : Nat) (al : Option Addr) (cl : Nat) (left : List Int) (h1 : w.cell? ⟨g1, 0, none⟩ = some (.int .i64 j)) (h2 : w.cell? ⟨g2, 0, none⟩ = some (.slice al left.length cl)) (hRx : RdI w a' [p, q]) (hRl : RdI w al left) (hl : left.length ≤ 5) :
    Calls Tryz.prog 95 #[.slice a' n' c', .pointer (some ⟨g1, 0, none⟩), .pointer (some ⟨g2, 0, none⟩)] w fun e w' => e = .returned (.bool ((q == j) && hasI left p)) ∧ Ext w w' := by
  subst hn
  obtain ⟨b, off, rfl, c0, c1⟩ := hRx.two
  have HC := hide (fun w' (hw' : Ext w w') => containsI w' (w'.heap.size + 1000) (.slice al left.length cl) left p ⟨al, cl, rfl, hRl.ext hw', fun b off hb hne => by
    obtain ⟨x, hx⟩ := List.exists_mem_of_ne_nil _ hne
    obtain ⟨k, hk⟩ := List.mem_iff_getElem?.1 hx
    obtain ⟨b3, o3, hb3, hc3⟩ := hRl.at_ hk
    rw [hb] at hb3
    injection hb3 with hb3
    injection hb3 with hb3
    subst hb3
    have h1 := World.block_lt_of_cell? w _ hc3
    have h2 : b < w.heap.size := h1
    have := hw'.size
    omega⟩ (by omega))
  cases hq : (q == j)
  · clear HC
    go_enter Tryz.func95, Tryz.ntmps95
    go_wp2
    refine wp_region_X (by kernel_rfl) (by kernel_rfl) ?_
    repeat' (refine wpX_stepQ (fun K hK => ?_)
             go_simp
             try (rw [if_neg (by intro h; simp [undef] at h)])
             try split
             all_goals
               first
               | (refine hK _ ?_
                  clear hK K)
               | (apply Exists.intro
                  refine ⟨fun wq hwq => ?_, hK _ ?_⟩
                  · have hcq := hwq.cellS
                    go_simp
                    first
                    | exact ⟨Ext.refl _, rfl⟩
                  clear hK K))
    refine wpX_nil (fun wz hwz => ?_)
    go_wp2
    go_ret
    exact ⟨rfl, hwz⟩
  · go_enter Tryz.func95, Tryz.ntmps95
    go_wp2
    refine wp_region_X (by kernel_rfl) (by kernel_rfl) ?_
    repeat' (refine wpX_stepQ (fun K hK => ?_)
             go_simp
             try (rw [if_neg (by intro h; simp [undef] at h)])
             try split
             all_goals
               first
               | (refine hK _ ?_
                  clear hK K)
               | (apply Exists.intro
                  refine ⟨fun wq hwq => ?_, hK _ ?_⟩
                  · have hcq := hwq.cellS
                    go_simp
                    first
                    | exact ⟨Ext.refl _, rfl⟩
                    | exact ⟨Ext.refl _, HC.out _ (by repeat (first | exact Ext.refl _ | assumption | refine Ext.alloc ?_ _ | refine Ext.drew ?_ | refine Ext.trans ?_ (by assumption)))⟩
                  clear hK K))
    refine wpX_nil (fun wz hwz => ?_)
    go_wp2
    go_ret
    exact ⟨ret_bool (by simp), hwz⟩

set_option maxRecDepth 100000 in
set_option maxHeartbeats 1000000 in
theorem prkOne (w : World) (B : Nat) (gk gl n : Nat) (a al : Option Addr) (c cl : Nat) (kept : List (List Int)) (left : List Int) (j : Int) (h1 : w.cell? ⟨gk, 0, none⟩ = some (.slice a kept.length c)) (h2 : w.cell? ⟨gl, 0, none⟩ = some (.slice al left.length cl)) (hR : RdSS w B (.slice a kept.length c) kept)
    (hRl : RdI w al left) (hl : left.length ≤ 5) (hk : kept.length ≤ 1000) (hp : ∀ x ∈ kept, PairN n x) :
    Calls Tryz.prog 93 #[.int .i64 j, .pointer (some ⟨gk, 0, none⟩), .pointer (some ⟨gl, 0, none⟩)] w fun e w' => e = .returned (.bool (freeB kept left j)) ∧ Ext w w' := by
  have f0 := new0 w (.int .i64 j) [] 3
  have hE := Ext.new w (.cells #[.int .i64 j] 3)
  have h2' := hE.keep h2
  have hRl' := hRl.ext hE
  have HC := hide (containsFuncR 95 #[] #[.pointer (some ⟨w.heap.size, 0, none⟩), .pointer (some ⟨gl, 0, none⟩)] (fun x => (p1 x == j) && hasI left (p0 x)) _ B a c kept (hR.ext hE) (by omega) Tryz.call95
    (fun xs a' c' w' hx hRx hw' => by
      obtain ⟨p, q, _, _, rfl⟩ := hp xs hx
      exact prkIn w' a' _ c' rfl p q j w.heap.size gl al cl left (hw'.keep f0) (hw'.keep h2') hRx (hRl'.ext hw') hl))
  have h1' := hE.keep h1
  clear hp hR hRl hRl' h2' f0 hE
  show Calls Tryz.prog 93 #[.int .i64 j, .pointer (some ⟨gk, 0, none⟩), .pointer (some ⟨gl, 0, none⟩)] w _
  go_enter Tryz.func93, Tryz.ntmps93
  go_wp2_with fail
  refine HC.out.mono ?_
  rintro e w1 ⟨rfl, hw1⟩
  go_wp2
  go_ret
  exact ⟨ret_bool (by unfold freeB; rfl), (by repeat (first | exact Ext.refl _ | assumption | refine Ext.alloc ?_ _ | refine Ext.drew ?_ | refine Ext.trans ?_ (by assumption)))⟩

set_option maxRecDepth 100000 in
theorem BlkF.keepG {w w' : World} {g n : Nat} {f : Nat → Value} {row : Option Nat} (h : BlkF w g n f) (hg : w.grownBy w' row) (hr : row ≠ some g) : BlkF w' g n f := h.grown hg (fun k hk e => hr (by rw [hk, e]))

set_option maxRecDepth 100000 in
set_option maxHeartbeats 8000000 in
theorem prk_impl (w : World) (sz : Int) (a : Option Addr) (c : Nat) (vs : List Vt) (hR : RdV w a vs) :
    Calls Tryz.prog 58 #[.agg #[.int .i64 sz, .slice a vs.length c]] w fun e w' => ∃ v, e = .returned v ∧ OwnI w' w.heap.size v (prkO sz vs) ∧ Ext w w' := by
  have q0 := new0 w (.int .i64 sz) [.slice a vs.length c] 26
  have q1 := new1 w (.int .i64 sz) (.slice a vs.length c) [] 26
  cases h0 : profOk sz vs
  · go_enter Tryz.func58, Tryz.ntmps58
    go_wp2_with (go_at_call 25; refine (prof_impl _ _ _ _ _ (hR.ext (by repeat (first | exact Ext.refl _ | assumption | refine Ext.alloc ?_ _ | refine Ext.drew ?_ | refine Ext.trans ?_ (by assumption))))).mono ?_; rintro e w1 ⟨rfl, hw1⟩; have q0 := Ext.keep (w' := w1) (by repeat (first | exact Ext.refl _ | assumption | refine Ext.alloc ?_ _ | refine Ext.drew ?_ | refine Ext.trans ?_ (by assumption))) q0; have q1 := Ext.keep (w' := w1) (by repeat (first | exact Ext.refl _ | assumption | refine Ext.alloc ?_ _ | refine Ext.drew ?_ | refine Ext.trans ?_ (by assumption))) q1)
    go_ret
    exact ⟨_, rfl, by simp [prkO, h0]; exact OwnI.nil _ _, (by repeat (first | exact Ext.refl _ | assumption | refine Ext.alloc ?_ _ | refine Ext.drew ?_ | refine Ext.trans ?_ (by assumption)))⟩
  obtain ⟨n, rfl, n1, n2⟩ := prof_nat h0
  have HP0 : Hid (prkO n vs = prL (lokO n vs) n n) := hide (by simp [prkO, h0])
  have HLK : Hid (lokO n vs = lockL (srtP n vs)) := hide (by simp [lokO, h0])
  have HRK : Hid (Ranked (lokO n vs)) := hide (by rw [HLK.out, lockL_all]; exact lockL_ranked _ _ (Nat.le_refl _))
  have HPN : Hid (∀ x ∈ lokO n vs, PairN n x) := fun x hx => by rw [HLK.out] at hx; exact (srtP_mem (lok_sub _ x hx)).1
  have HKL := hide (lokO_bd n vs).1
  go_enter Tryz.func58, Tryz.ntmps58
  go_wp2_with (go_at_call 25; refine (prof_impl _ _ _ _ _ (hR.ext (by repeat (first | exact Ext.refl _ | assumption | refine Ext.alloc ?_ _ | refine Ext.drew ?_ | refine Ext.trans ?_ (by assumption))))).mono ?_; rintro e w1 ⟨rfl, hw1⟩; have q0 := Ext.keep (w' := w1) (by repeat (first | exact Ext.refl _ | assumption | refine Ext.alloc ?_ _ | refine Ext.drew ?_ | refine Ext.trans ?_ (by assumption))) q0; have q1 := Ext.keep (w' := w1) (by repeat (first | exact Ext.refl _ | assumption | refine Ext.alloc ?_ _ | refine Ext.drew ?_ | refine Ext.trans ?_ (by assumption))) q1)
  refine (lok_impl _ _ _ _ _ (hR.ext (by repeat (first | exact Ext.refl _ | assumption | refine Ext.alloc ?_ _ | refine Ext.drew ?_ | refine Ext.trans ?_ (by assumption))))).mono ?_
  rintro e w2 ⟨v, rfl, hv, hw2⟩
  have hw : Ext w w2 := (by repeat (first | exact Ext.refl _ | assumption | refine Ext.alloc ?_ _ | refine Ext.drew ?_ | refine Ext.trans ?_ (by assumption)))
  have q0 := hw2.keep q0
  have hV := hv.wr.rd
  obtain ⟨av, cv, rfl, hju⟩ := hV
  have hV : RdSS w2 w2.heap.size (.slice av (lokO n vs).length cv) (lokO n vs) := ⟨av, cv, rfl, hju⟩
  clear hju hv hw1 hw2 q1 h0 HLK
  generalize lokO n vs = kept at hV HP0 HRK HPN HKL ⊢
  obtain ⟨wa, hwa⟩ : ∃ wa : World, wa = w2 := ⟨_, rfl⟩
  subst hwa
  have hEk := Ext.new wa (.cells #[.slice av kept.length cv] 50)
  have hk3 := new0 wa (.slice av kept.length cv) [] 50
  have q0 := hEk.keep q0
  have hV := hV.ext hEk
  have hw := hw.trans hEk
  have hs3 : (wa.alloc (.cells #[.slice av kept.length cv] 50)).heap.size = wa.heap.size + 1 := by simp
  go_wp2_with fail
  generalize wa.alloc (.cells #[.slice av kept.length cv] 50) = wk at hk3 q0 hV hw hs3 ⊢
  obtain ⟨g3, hg3⟩ : ∃ g3 : Nat, g3 = wa.heap.size := ⟨_, rfl⟩
  rw [← hg3] at hk3 hs3 ⊢
  clear hEk hg3
  refine (indices_impl _ n n2).mono ?_
  rintro e w3 ⟨rfl, hB, hw3⟩
  rw [hs3] at hB
  have hBx := BlkF.new w3 #[.slice (some ⟨g3 + 1, 0, none⟩) n n] 28
  have hEx := Ext.new w3 (.cells #[.slice (some ⟨g3 + 1, 0, none⟩) n n] 28)
  have hB3 := hB.ext hEx
  have hgl := hB.lt
  have hszx := hBx.lt
  have hEW := hw3.trans hEx
  go_wp2_with fail
  generalize w3.alloc (.cells #[.slice (some ⟨g3 + 1, 0, none⟩) n n] 28) = wb at hBx hB3 hszx hEW ⊢
  obtain ⟨gl, hgl2⟩ : ∃ gl : Nat, gl = w3.heap.size := ⟨_, rfl⟩
  rw [← hgl2] at hBx hszx hgl ⊢
  obtain ⟨g, hg⟩ : ∃ g : Nat, g = g3 + 1 := ⟨_, rfl⟩
  rw [← hg] at hBx hB3 hgl hs3 ⊢
  have hkg : wk.heap.size ≤ g := by omega
  clear hgl2 hB hEx hw3 hg
  have hBx := hBx.congr (f' := fun _ => .slice (some ⟨g, 0, none⟩) (n - 0) n) (fun o ho => by simp at ho; subst ho; rfl)
  go_loopw [5, 6] (fun v _ wr => ∃ (k : Nat) (f : Nat → Value), k ≤ n ∧ OwnI wr wb.heap.size v (prL kept n k) ∧ BlkF wr g (n - k) f ∧ BlkF wr gl 1 (fun _ => .slice (some ⟨g, 0, none⟩) (n - k) n) ∧ Hid (∀ (j : Nat) (x : Int), (leftL n (prL kept n k))[j]? = some x → f j = .int .i64 x) ∧ Ext wk wr ∧ wb.heap.size ≤ wr.heap.size) (fun v _ _ => match v with | .slice _ L _ => n - L | _ => 0)
  case atStart =>
    refine ⟨0, _, Nat.zero_le _, OwnI.nil _ _, hB3, hBx, fun j x hx => ?_, hEW, Nat.le_refl _⟩
    rw [prL, leftL_nil, ← iotaL_up] at hx
    obtain ⟨_, rfl⟩ := rowL_val hx
    rfl
  case round =>
    clear hB3 hBx hEW
    obtain ⟨k, f, hk, hown, hB, hX, hfl, hwr, hsz⟩ := hrel
    have hll := leftL_prL (n := n) HRK.out k hk
    have hel := prL_len kept n k
    have hx0 := hX.cell 0 (by omega)
    have hxf := hX.fr 0
    have hk3r := hwr.keep hk3
    obtain ⟨a5, L5, c5, rfl, hL, hju⟩ := hown.formR'
    rw [hel] at hL
    clear hju
    subst hL
    by_cases hlt : L5 < n
    · obtain ⟨left, hleft⟩ : ∃ left, left = leftL n (prL kept n L5) := ⟨_, rfl⟩
      have hnl := next_left (kept := kept) (n := n) (out := prL kept n L5) HRK.out (fun e => by rw [e] at hll; simp at hll; omega)
      rw [← hleft] at hll hfl hnl
      obtain ⟨p, hfi, hpick⟩ := hnl
      have hplt := lt_of_at hpick
      have HLT := hide hleft
      have HFI := hide hfi
      have HPK := hide hpick
      obtain ⟨m, hm⟩ : ∃ m : Nat, m = n - L5 := ⟨_, rfl⟩
      rw [← hm] at hll hB hX hx0
      have hm1 : 1 ≤ m := by omega
      have hm0 : decide (0 < m) = true := by simp; omega
      have hmn : m ≤ n := by omega
      have hmk : m + L5 ≤ n := by omega
      have hmk2 : n ≤ m + L5 := by omega
      have hRl := hB.rdL (xs := left) (by omega) hfl.out
      have hV5 := hV.ext hwr
      have hx0' : wr.cell? ⟨gl, 0, none⟩ = some (.slice (some ⟨g, 0, none⟩) left.length n) := by rw [hll]; exact hx0
      have hcall := indexFuncI 93 #[] #[.pointer (some ⟨g3, 0, none⟩), .pointer (some ⟨gl, 0, none⟩)] (freeB kept left) wr (some ⟨g, 0, none⟩) n left hRl (by omega) Tryz.call93
        (fun x w' _ hw' => prkOne w' _ g3 gl n av (some ⟨g, 0, none⟩) cv n kept left x (hw'.keep hk3r) (hw'.keep hx0') (hV5.ext hw') (hRl.ext hw') (by omega) HKL.out HPN.out)
      rw [hll, hfi] at hcall
      have HC := hide hcall
      have HLL := hide hll
      have hpm : p < m := by omega
      have hpf := hfl.out p _ hpick
      have d0 := hB.cell p hpm
      rw [hpf] at d0
      have hone : ∀ t, t < m → (f t).oneCell' = true := fun t ht => by
        obtain ⟨x, hx⟩ := at_of_lt (xs := left) (k := t) (by rw [hll]; exact ht)
        rw [hfl.out t x hx]; rfl
      have HONE := hide hone
      have i1 : (p : Int) < (m : Int) := Int.ofNat_lt.2 hpm
      have i2 : (0 : Int) ≤ (p : Int) := Int.natCast_nonneg _
      clear hleft hm hll hfi hpick hplt hcall hx0' hV5 hRl hpf hone
      go_wp2_with fail
      refine HC.out.mono ?_
      rintro e w4 ⟨rfl, hw4⟩
      have hx4 := hw4.keep hx0
      have d4 := hw4.keep d0
      have hsw4 := hw4.size
      have hown4 := hown.ext hw4
      have hB4 := hB.ext hw4
      have hX4 := hX.ext hw4
      have hE4 := hwr.trans hw4
      have hrow : ∀ b, (Value.slice a5 L5 c5).ownBlock = some b → wb.heap.size ≤ b := fun b hb => ownsRow_block hown b hb
      have HROW := hide hrow
      have HX5 : Hid (∀ w5, w4.grownBy w5 (Value.slice a5 L5 c5).ownBlock → BlkF w5 gl 1 (fun _ => .slice (some ⟨g, 0, none⟩) m n) ∧ w5.cell? ⟨gl, 0, none⟩ = some (.slice (some ⟨g, 0, none⟩) m n)) := fun w5 hg5 => by
        have hX5 := hX4.grown hg5 (fun b hb => by have := hrow b hb; omega)
        exact ⟨hX5, hX5.cell 0 (by omega)⟩
      have HLEN : Hid ((prL kept n L5).length ≤ 2000000) := hide (by omega)
      clear hrow hx0 hxf d0 hown hB hX hwr hw4 HC
      go_wp2_with (at_builtin; go_loud (refine wpList_appF wb.heap.size w4 rfl (.tmp 21) (.tmp 26) rfl (.slice a5 L5 c5) (prL kept n L5) (nextV kept n (prL kept n L5)) rfl hown4 (Nat.le_trans hsz hsw4) rfl HLEN.out ?_); intro v' w5 hown5 hg5 hf5; obtain ⟨hX5, hx5⟩ := HX5.out _ hg5)
      have hB5 := hB4.grown hg5 (fun b hb => by have := HROW.out b hb; omega)
      have hE5 : Ext wk w5 := Ext.grown hE4 hg5 (fun b hb => by have := HROW.out b hb; omega)
      have hz5 := hg5.size
      clear hB4 hX4 hE4 hown4 d4 hx4 HROW hg5 hf5
      have HC2 := hide (del1 w5 g m n p f hB5 hpm hmn HONE.out)
      clear hB5 HONE
      refine HC2.out.mono ?_
      rintro e w6 ⟨rfl, hB6, hO6⟩
      have hz6 := hO6.size
      have hX6 := hO6.blk hX5 (by omega)
      have hx6 := hX6.cell 0 (by omega)
      have hxf6 := hX6.fr 0
      have hown6 := hown5.only (by omega) hO6
      have hE6 := Only.ext hE5 hO6 hkg
      clear hown5 hX5 hx5 hE5 hO6 HC2
      go_wp2
      have hOg : Only gl w6 (w6.setCell ⟨gl, 0, none⟩ (.slice (some ⟨g, 0, none⟩) (m - 1) n)) := (Only.refl gl w6).setCell 0 _
      have hown7 := hown6.only (by omega) hOg
      have hX7 := hX6.set 0 (by omega) (.slice (some ⟨g, 0, none⟩) (m - 1) n)
      have hB7 := hB6.far (p := ⟨gl, 0, none⟩) (by show gl ≠ g; omega) (.slice (some ⟨g, 0, none⟩) (m - 1) n)
      have hE7 := Only.ext hE6 hOg (by omega)
      have hz7 := hOg.size
      obtain ⟨a8, L8, c8, rfl, hL8, _⟩ := hown7.formR'
      rw [List.length_append, prL_len] at hL8
      have hL8' : L8 = L5 + 1 := hL8
      refine ⟨⟨L5 + 1, fun t => if t < p then f t else f (t + 1), by omega, ?_, ?_, ?_, fun j x hx => ?_, hE7, by omega⟩, by show n - L8 < n - L5; omega⟩
      · show OwnI _ _ _ (prL kept n L5 ++ [nextV kept n (prL kept n L5)])
        exact hown7
      · rw [show n - (L5 + 1) = m - 1 by omega]
        exact hB7
      · rw [show n - (L5 + 1) = m - 1 by omega]
        exact hX7.congr (fun o ho => by have : o = 0 := by omega
                                        subst this; rfl)
      · have hpk := HPK.out
        rw [HLT.out] at hpk
        have he : leftL n (prL kept n (L5 + 1)) = left.eraseIdx p := by
          show leftL n (prL kept n L5 ++ [nextV kept n (prL kept n L5)]) = _
          rw [HLT.out]
          exact (leftL_erase hpk).symm
        rw [he, List.getElem?_eraseIdx] at hx
        show (if j < p then f j else f (j + 1)) = _
        by_cases e : j < p
        · rw [if_pos e] at hx ⊢
          exact hfl.out j x hx
        · rw [if_neg e] at hx ⊢
          exact hfl.out (j + 1) x hx
    · have hkn : L5 = n := by omega
      have hm0 : decide (0 < n - L5) = false := by simp; omega
      have hown2 : OwnI wr wb.heap.size (.slice a5 L5 c5) (prkO n vs) := by
        rw [HP0.out]
        rwa [show prL kept n L5 = prL kept n n by rw [hkn]] at hown
      have HO := hide hown2
      have hws := hw.size
      clear hkn hown hown2
      go_wp2
      go_ret
      exact ⟨_, rfl, HO.out.base (by omega), hw.trans hwr⟩

set_option maxRecDepth 100000 in
set_option maxHeartbeats 1000000 in
theorem borOne (w : World) (g n j : Nat) (hj : j < n) (n2 : n ≤ 5) (h0 : w.cell? ⟨g, 0, none⟩ = some (.int .i64 n)) : Calls Tryz.prog 70 (#[.int .i64 j] ++ #[.pointer (some ⟨g, 0, none⟩)]) w fun e w' => e = .returned (.int .i64 (borW n j)) ∧ Ext w w' := by
  have hb : borW n j = (n : Int) - 1 - j := by unfold borW; omega
  have HB := hide hb
  clear hb
  show Calls Tryz.prog 70 #[.int .i64 j, .pointer (some ⟨g, 0, none⟩)] w _
  go_enter Tryz.func70, Tryz.ntmps70
  go_wp2
  go_ret
  exact ⟨ret_int (by rw [HB.out]), Ext.refl _⟩

set_option maxRecDepth 100000 in
set_option maxHeartbeats 1000000 in
theorem vetOne (w : World) (g n j : Nat) (hj : j < n) (n2 : n ≤ 5) (h0 : w.cell? ⟨g, 0, none⟩ = some (.int .i64 n)) : Calls Tryz.prog 71 (#[.int .i64 j] ++ #[.pointer (some ⟨g, 0, none⟩)]) w fun e w' => e = .returned (.int .i64 (vetW n j)) ∧ Ext w w' := by
  have hb : vetW n j = min 1 ((n : Int) - 1 - j) := by unfold vetW; split <;> omega
  have HB := hide hb
  clear hb
  show Calls Tryz.prog 71 #[.int .i64 j, .pointer (some ⟨g, 0, none⟩)] w _
  go_enter Tryz.func71, Tryz.ntmps71
  go_wp2
  all_goals go_ret
  all_goals exact ⟨ret_int (by rw [HB.out]; omega), Ext.refl _⟩

set_option maxRecDepth 100000 in
set_option maxHeartbeats 1000000 in
theorem bor_impl (w : World) (n : Nat) (n1 : 1 ≤ n) (n2 : n ≤ 5) :
    Calls Tryz.prog 46 #[.int .i64 n] w fun e w' => ∃ v, e = .returned v ∧ OwnI w' w.heap.size v (rowL n (borW n)) ∧ Ext w w' := by
  have q0 := new0 w (.int .i64 n) [] 3
  have hE := Ext.new w (.cells #[.int .i64 n] 3)
  go_enter Tryz.func46, Tryz.ntmps46
  go_wp2_with fail
  refine (weightsOf_impl 70 #[.pointer (some ⟨w.heap.size, 0, none⟩)] (borW n) _ n n1 n2 Tryz.call70 (fun j w' hj hw' => borOne w' w.heap.size n j hj n2 (hw'.keep q0))).mono ?_
  rintro e w1 ⟨v, rfl, hv, hw1⟩
  go_wp2
  go_ret
  exact ⟨_, rfl, hv.base hE.size, hE.trans hw1⟩

set_option maxRecDepth 100000 in
set_option maxHeartbeats 1000000 in
theorem vet_impl (w : World) (n : Nat) (n1 : 1 ≤ n) (n2 : n ≤ 5) :
    Calls Tryz.prog 47 #[.int .i64 n] w fun e w' => ∃ v, e = .returned v ∧ OwnI w' w.heap.size v (rowL n (vetW n)) ∧ Ext w w' := by
  have q0 := new0 w (.int .i64 n) [] 3
  have hE := Ext.new w (.cells #[.int .i64 n] 3)
  go_enter Tryz.func47, Tryz.ntmps47
  go_wp2_with fail
  refine (weightsOf_impl 71 #[.pointer (some ⟨w.heap.size, 0, none⟩)] (vetW n) _ n n1 n2 Tryz.call71 (fun j w' hj hw' => vetOne w' w.heap.size n j hj n2 (hw'.keep q0))).mono ?_
  rintro e w1 ⟨v, rfl, hv, hw1⟩
  go_wp2
  go_ret
  exact ⟨_, rfl, hv.base hE.size, hE.trans hw1⟩

set_option maxRecDepth 100000 in
set_option maxHeartbeats 1000000 in
theorem swin_impl (w : World) (n : Nat) (a aw : Option Addr) (c cw : Nat) (vs : List Vt) (f : Nat → Int) (n2 : n ≤ 5) (hR : RdV w a vs) (hW : RdI w aw (rowL n f)) (hf : GoodW f) (h0 : profOk n vs = true) :
    Calls Tryz.prog 44 #[.agg #[.int .i64 n, .slice a vs.length c], .slice aw n cw] w fun e w' => ∃ v, e = .returned v ∧ OwnI w' w.heap.size v (bestL (rowL n (scoV f vs))) ∧ Ext w w' := by
  go_enter Tryz.func44, Tryz.ntmps44
  go_wp2_with fail
  refine (sco_impl _ _ a aw c cw vs f n rfl (hR.ext (by repeat (first | exact Ext.refl _ | assumption | refine Ext.alloc ?_ _ | refine Ext.drew ?_ | refine Ext.trans ?_ (by assumption)))) (hW.ext (by repeat (first | exact Ext.refl _ | assumption | refine Ext.alloc ?_ _ | refine Ext.drew ?_ | refine Ext.trans ?_ (by assumption)))) hf h0).mono ?_
  rintro e w1 ⟨v, rfl, hv, hw1⟩
  obtain ⟨av, cv, rfl, _, hRs, hju⟩ := hv.fr
  have hw : Ext w w1 := (Ext.new _ _).trans hw1
  clear hju hv
  have H := hide (gr_impl w1 av cv (rowL n (scoV f vs)) hRs (by rw [rowL_len]; omega))
  go_wp2_with fail
  refine H.out.mono ?_
  rintro e w2 ⟨v, rfl, hv, hw2⟩
  go_wp2
  go_ret
  exact ⟨_, rfl, hv.base hw.size, hw.trans hw2⟩

set_option maxRecDepth 100000 in
theorem lastI_at {xs : List Int} {m : Nat} (h : xs.length = m + 1) {x : Int} (hx : xs[m]? = some x) : lastI xs = x := by
  unfold lastI
  rw [List.getLast?_eq_getElem?, h, Nat.add_sub_cancel, hx]; rfl

set_option maxRecDepth 100000 in
set_option maxHeartbeats 1000000 in
theorem lastOf_impl (w : World) (a : Option Addr) (c : Nat) (xs : List Int) (hR : RdI w a xs) (hl : xs.length ≤ 2000000) :
    Calls Tryz.prog 52 #[.slice a xs.length c] w fun e w' => e = .returned (.int .i64 (lastI xs)) ∧ Ext w w' := by
  cases h : xs.length with
  | zero =>
    have : xs = [] := List.length_eq_zero_iff.1 h
    subst this
    go_enter Tryz.func52, Tryz.ntmps52
    go_wp2
    go_ret
    exact ⟨rfl, Ext.refl _⟩
  | succ m =>
    obtain ⟨x, hx⟩ := at_of_lt (xs := xs) (k := m) (by omega)
    obtain ⟨b, off, rfl, c0⟩ := hR.at_ hx
    have HL := hide (lastI_at h hx)
    rw [h] at hl
    have t0 : (((m + 1 : Nat) : Int) == 0) = false := by rw [beq_eq_false_iff_ne]; omega
    have y0 : wrap64 (((m + 1 : Nat) : Int) - 1) = (m : Int) := by rw [IntWalk.wrap64_in _ (by omega)]; omega
    clear hx h
    go_enter Tryz.func52, Tryz.ntmps52
    go_wp2
    go_ret
    exact ⟨ret_int HL.out.symm, Ext.refl _⟩

end Go.Proofs.YtfmeklgdaabooaaGreatDoor
