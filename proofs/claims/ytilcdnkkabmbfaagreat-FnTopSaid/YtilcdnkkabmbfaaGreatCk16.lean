/- slices.IndexFunc and ContainsFunc over lists of lists, with a function. slices' stable sort with a function, of a short list. The pairs that are kept, of the program. -/
import Derived.Test.YtilcdnkkabmbfaaGreatCk1
import Derived.Test.YtilcdnkkabmbfaaGreatCk4
import Derived.Test.YtilcdnkkabmbfaaGreatCk15
import Derived.Test.YtilcdnkkabmbfaaGreatCk7
import Derived.Test.YtilcdnkkabmbfaaGreatCk14
namespace Go.Proofs.YtilcdnkkabmbfaaGreat
open Go.RowKit

set_option maxRecDepth 100000 in
set_option maxHeartbeats 1000000 in
theorem indexFuncR (K : Nat) (fst cap : Array Value) (p : List Int → Bool) (w : World) (B : Nat) (a : Option Addr) (c : Nat) (xss : List (List Int)) (hR : RdSS w B (.slice a xss.length c) xss) (hl : xss.length ≤ 2000000) (hK : Enters Tryz.prog K)
    (hf : ∀ (xs : List Int) (a' : Option Addr) (c' : Nat) (w' : World), xs ∈ xss → RdI w' a' xs → Ext w w' → Calls Tryz.prog K (fst.push (.slice a' xs.length c') ++ cap) w' fun e w'' => e = .returned (.bool (p xs)) ∧ Ext w' w'') :
    Calls Tryz.prog 154 #[.slice a xss.length c, .func (.func K) fst cap] w fun e w' => e = .returned (.int .i64 (findI p xss)) ∧ Ext w w' := by
  unfold Enters at hK
  have HF := hide hf
  clear hf
  go_enter Tryz.func154, Tryz.ntmps154
  go_wp2_with fail
  go_loopw [5, 8] (fun _ i wr => ∃ k : Nat, k ≤ xss.length ∧ i = .int .i64 k ∧ Hid ((xss.take k).all (fun x => !p x) = true) ∧ Ext w wr) (fun _ i _ => xss.length - (intOf i).toNat)
  case atStart => exact ⟨0, Nat.zero_le _, rfl, rfl, Ext.refl _⟩
  case round =>
    obtain ⟨k, hk, rfl, hall, hwr⟩ := hrel
    by_cases hlt : k < xss.length
    · obtain ⟨x, hx⟩ := at_of_lt hlt
      obtain ⟨b, off, a', c', rfl, c0, hRx⟩ := (hR.ext hwr).at_ hx
      have HX := hide hx
      clear hx
      cases hp : p x
      all_goals
        go_wp2_with fail
        refine (HF.out x a' c' wr (List.mem_of_getElem? HX.out) hRx hwr).mono ?_
        rintro e w1 ⟨rfl, hw1⟩
        go_wp2
      · exact ⟨⟨k + 1, by omega, by go_num, (all_take HX.out hall.out).trans (by simp [hp]), hwr.trans hw1⟩, by simp [intOf]; omega⟩
      · go_ret
        exact ⟨ret_int (findI_some HX.out hall.out hp).symm, hwr.trans hw1⟩
    · go_wp2
      go_ret
      exact ⟨ret_int (findI_none (all_whole (by omega) hall.out)).symm, hwr⟩

set_option maxRecDepth 100000 in
set_option maxHeartbeats 1000000 in
theorem containsFuncR (K : Nat) (fst cap : Array Value) (p : List Int → Bool) (w : World) (B : Nat) (a : Option Addr) (c : Nat) (xss : List (List Int)) (hR : RdSS w B (.slice a xss.length c) xss) (hl : xss.length ≤ 2000000) (hK : Enters Tryz.prog K)
    (hf : ∀ (xs : List Int) (a' : Option Addr) (c' : Nat) (w' : World), xs ∈ xss → RdI w' a' xs → Ext w w' → Calls Tryz.prog K (fst.push (.slice a' xs.length c') ++ cap) w' fun e w'' => e = .returned (.bool (p xs)) ∧ Ext w' w'') :
    Calls Tryz.prog 109 #[.slice a xss.length c, .func (.func K) fst cap] w fun e w' => e = .returned (.bool (xss.any p)) ∧ Ext w w' := by
  have H := hide (indexFuncR K fst cap p w B a c xss hR hl hK hf)
  clear hf
  go_enter Tryz.func109, Tryz.ntmps109
  go_wp2_with fail
  refine H.out.mono ?_
  rintro e w1 ⟨rfl, hw1⟩
  go_wp2
  go_ret
  exact ⟨ret_bool (findI_nonneg p xss), hw1⟩

set_option maxRecDepth 100000 in
set_option maxHeartbeats 4000000 in
theorem stabR_impl (K : Nat) (fst cap : Array Value) (key : RowE → Int) (d : RowE → RowE → Int) (w : World) (g n c : Nat) (ys : List RowE) (hn : ys.length = n) (hn2 : n ≤ 19) (hB : BlkF w g n (memF rowV ys)) (hK : Enters Tryz.prog K)
    (hd : ∀ x y, d x y < 0 ↔ key y < key x)
    (hf : ∀ (x y : RowE) (w' : World), x ∈ ys → y ∈ ys → Only g w w' → Calls Tryz.prog K (fst ++ (#[.slice x.a x.n x.c, .slice y.a y.n y.c] ++ cap)) w' fun e w'' => e = .returned (.int .i64 (d x y)) ∧ Ext w' w'') :
    Calls Tryz.prog 151 #[.slice (some ⟨g, 0, none⟩) n c, .func (.func K) fst cap] w fun e w' => e = .returned (.tuple #[]) ∧ BlkF w' g n (memF rowV (sortD key ys)) ∧ Only g w w' := by
  have HI := hide (insR_impl K fst cap key d w g n c ys hn (by omega) hB hK hd hf)
  have i1 : ¬ (20 : Int) ≤ (n : Int) := by omega
  have i2 : ¬ (20 : Int) < (n : Int) := by omega
  clear hd hf hB hn
  have HS : Hid (Calls Tryz.prog 170 #[.slice (some ⟨g, 0, none⟩) n c, .int .i64 n, .func (.func K) fst cap] w fun e w' => e = .returned (.tuple #[]) ∧ BlkF w' g n (memF rowV (sortD key ys)) ∧ Only g w w') := by
    go_enter Tryz.func170, Tryz.ntmps170
    go_wp2_with fail
    go_loopw [7, 8] (fun a b wr => a = .int .i64 0 ∧ b = .int .i64 20 ∧ wr = w) (fun _ _ _ => 0)
    case atStart => exact ⟨rfl, rfl, rfl⟩
    case round =>
      obtain ⟨rfl, rfl, rfl⟩ := hrel
      go_wp2_with fail
      refine HI.out.mono ?_
      rintro e w1 ⟨rfl, hB1, hO1⟩
      obtain ⟨wb, hwb⟩ : ∃ wb : World, wb = wr := ⟨_, rfl⟩
      subst hwb
      go_wp2_with fail
      go_loopw [6, 7, 8, 9] (fun s _ _ _ wq => s = .int .i64 20 ∧ wq = w1) (fun _ _ _ _ _ => 0)
      case atStart => exact ⟨rfl, rfl⟩
      case round =>
        obtain ⟨rfl, rfl⟩ := hrel
        go_wp2
        go_end0
        exact ⟨rfl, hB1, hO1⟩
  go_enter Tryz.func151, Tryz.ntmps151
  go_wp2_with fail
  refine HS.out.mono ?_
  rintro e w1 ⟨rfl, hB1, hO1⟩
  go_wp2
  go_end0
  exact ⟨rfl, hB1, hO1⟩

set_option maxRecDepth 100000 in
set_option maxHeartbeats 1000000 in
theorem leadsOne (kept : List (List Int)) (to : Int) (w : World) (a : Option Addr) (c g1 g2 g3 : Nat) (x y from_ : Int) (h1 : w.cell? ⟨g1, 0, none⟩ = some (.int .i64 from_)) (h2 : w.cell? ⟨g2, 0, none⟩ = some (.slice a kept.length c)) (h3 : w.cell? ⟨g3, 0, none⟩ = some (.int .i64 to))
    (a' : Option Addr) (n' c' : Nat) (hn : n' = 2) (hRx : RdI w a' [x, y])
    (ih : x = from_ → ∀ w', Ext w w' → Calls Tryz.prog 153 #[.slice a kept.length c, .int .i64 y, .int .i64 to] w' fun e w'' => e = .returned (.bool (wayB kept y to)) ∧ Ext w' w'') :
    Calls Tryz.prog 171 #[.slice a' n' c', .pointer (some ⟨g1, 0, none⟩), .pointer (some ⟨g2, 0, none⟩), .pointer (some ⟨g3, 0, none⟩)] w fun e w' => e = .returned (.bool (decide (x = from_) && wayB kept y to)) ∧ Ext w w' := by
  subst hn
  obtain ⟨b, off, rfl, c0, c1⟩ := hRx.two
  by_cases hx : x = from_
  · have HC := hide (ih hx)
    have t1 : (x == from_) = true := by rw [beq_iff_eq]; exact hx
    have t2 : decide (x = from_) = true := decide_eq_true hx
    clear ih hx hRx
    go_enter Tryz.func171, Tryz.ntmps171
    go_wp2
    refine wp_region_X (by kernel_rfl) (by kernel_rfl) ?_
    repeat' (refine wpX_stepQ (fun K hK => ?_)
             go_simp
             try (rw [if_neg (by intro h; simp [undef] at h)])
             try split
             all_goals
               first
               | (refine hK _ ?_
                  clear hK K)
               | (apply Exists.intro
                  refine ⟨fun wq hwq => ?_, hK _ ?_⟩
                  · have hcq := hwq.cellS
                    go_simp
                    first
                    | exact ⟨Ext.refl _, rfl⟩
                    | exact ⟨Ext.refl _, HC.out _ (by repeat (first | exact Ext.refl _ | assumption | refine Ext.alloc ?_ _ | refine Ext.drew ?_ | refine Ext.trans ?_ (by assumption)))⟩
                  clear hK K))
    refine wpX_nil (fun wz hwz => ?_)
    go_wp2
    go_ret
    exact ⟨ret_bool (by simp [t2]), hwz⟩
  · have t1 : (x == from_) = false := by rw [beq_eq_false_iff_ne]; exact hx
    have t2 : decide (x = from_) = false := decide_eq_false hx
    clear ih hx hRx
    go_enter Tryz.func171, Tryz.ntmps171
    go_wp2
    refine wp_region_X (by kernel_rfl) (by kernel_rfl) ?_
    repeat' (refine wpX_stepQ (fun K hK => ?_)
             go_simp
             try (rw [if_neg (by intro h; simp [undef] at h)])
             try split
             all_goals
               first
               | (refine hK _ ?_
                  clear hK K)
               | (apply Exists.intro
                  refine ⟨fun wq hwq => ?_, hK _ ?_⟩
                  · have hcq := hwq.cellS
                    go_simp
                    first
                    | exact ⟨Ext.refl _, rfl⟩
                  clear hK K))
    refine wpX_nil (fun wz hwz => ?_)
    go_wp2
    go_ret
    exact ⟨ret_bool (by simp [t2]), hwz⟩

set_option maxRecDepth 100000 in
set_option maxHeartbeats 1000000 in
theorem leads_impl (kept : List (List Int)) (r : Int → Nat) (hr : ∀ x ∈ kept, r (p1 x) < r (p0 x)) (hp : ∀ x ∈ kept, ∃ y z : Int, x = [y, z]) (hl : kept.length ≤ 1000) (to : Int) : ∀ (k : Nat) (from_ : Int) (w : World) (B : Nat) (a : Option Addr) (c : Nat), r from_ < k →
    RdSS w B (.slice a kept.length c) kept → Calls Tryz.prog 153 #[.slice a kept.length c, .int .i64 from_, .int .i64 to] w fun e w' => e = .returned (.bool (wayB kept from_ to)) ∧ Ext w w' := by
  intro k
  induction k with
  | zero => intro from_ w B a c h; omega
  | succ k ih =>
    intro from_ w B a c hk hR
    have IH := hide ih
    have HR := hide hr
    have HP := hide hp
    clear ih hr hp
    by_cases he : from_ = to
    · have t1 : (from_ == to) = true := by rw [beq_iff_eq]; exact he
      have HW := hide (show wayB kept from_ to = true by rw [he]; exact wayB_self _ _)
      clear he
      go_enter Tryz.func153, Tryz.ntmps153
      go_wp2
      go_ret
      exact ⟨ret_bool HW.out.symm, (by repeat (first | exact Ext.refl _ | assumption | refine Ext.alloc ?_ _ | refine Ext.drew ?_ | refine Ext.trans ?_ (by assumption)))⟩
    · have t1 : (from_ == to) = false := by rw [beq_eq_false_iff_ne]; exact he
      have HW := hide (wayB_step (kept := kept) he)
      clear he
      have E1 := Ext.new w (.cells #[.slice a kept.length c] 93)
      have f1 := new0 w (.slice a kept.length c) [] 93
      obtain ⟨w1, hw1⟩ : ∃ w1, w1 = w.alloc (.cells #[.slice a kept.length c] 93) := ⟨_, rfl⟩
      have hs1 : w1.heap.size = w.heap.size + 1 := by rw [hw1]; simp
      have f2 := new0 w1 (.int .i64 from_) [] 3
      have E2 := Ext.new w1 (.cells #[.int .i64 from_] 3)
      obtain ⟨w2, hw2⟩ : ∃ w2, w2 = w1.alloc (.cells #[.int .i64 from_] 3) := ⟨_, rfl⟩
      have hs2 : w2.heap.size = w.heap.size + 1 + 1 := by rw [hw2]; simp [hs1]
      have f3 := new0 w2 (.int .i64 to) [] 3
      have E3 := Ext.new w2 (.cells #[.int .i64 to] 3)
      rw [← hw1] at f1 E1
      rw [hs1, ← hw2] at f2
      rw [← hw2] at E2
      rw [hs2] at f3
      have f1 := E3.keep (E2.keep f1)
      have f2 := E3.keep f2
      have hE := E1.trans (E2.trans E3)
      have hR3 := hR.ext hE
      rw [hw2, hw1] at f1 f2 f3 hE hR3
      have HC := hide (containsFuncR 171 #[] #[.pointer (some ⟨w.heap.size + 1, 0, none⟩), .pointer (some ⟨w.heap.size, 0, none⟩), .pointer (some ⟨w.heap.size + 1 + 1, 0, none⟩)] (fun x => decide (p0 x = from_) && wayB kept (p1 x) to) _ B a c kept hR3 (by omega) Tryz.call171
        (fun xs a' c' w' hx hRx hw' => by
          obtain ⟨y, z, rfl⟩ := HP.out xs hx
          refine leadsOne kept to w' a c (w.heap.size + 1) w.heap.size (w.heap.size + 1 + 1) y z from_ (hw'.keep f2) (hw'.keep f1) (hw'.keep f3) a' _ c' rfl hRx (fun e w'' hw'' => ?_)
          have h1 := HR.out [y, z] hx
          refine IH.out z w'' B a c ?_ (hR3.ext (hw'.trans hw''))
          have h2 : r z < r y := h1
          rw [e] at h2
          omega))
      clear f1 f2 f3 hE hR3 E1 E2 E3 hw1 hw2 hs1 hs2 IH HR HP hk
      go_enter Tryz.func153, Tryz.ntmps153
      go_wp2_with fail
      refine HC.out.mono ?_
      rintro e w3 ⟨rfl, hw3⟩
      go_wp2
      go_ret
      exact ⟨ret_bool HW.out.symm, (by repeat (first | exact Ext.refl _ | assumption | refine Ext.alloc ?_ _ | refine Ext.drew ?_ | refine Ext.trans ?_ (by assumption)))⟩

set_option maxRecDepth 100000 in
set_option maxHeartbeats 1000000 in
theorem lokOne (w : World) (g n : Nat) (a : Option Addr) (c : Nat) (vs : List Vt) (ax ay : Option Addr) (nx ny cx cy : Nat) (x0 x1 y0 y1 : Int) (h0 : w.cell? ⟨g, 0, none⟩ = some (.int .i64 n)) (h1 : w.cell? ⟨g, 1, none⟩ = some (.slice a vs.length c)) (hR : RdV w a vs) (hS : SmallV n vs)
    (hnx : nx = 2) (hny : ny = 2) (hX : RdI w ax [x0, x1]) (hY : RdI w ay [y0, y1]) :
    Calls Tryz.prog 152 (#[] ++ (#[.slice ax nx cx, .slice ay ny cy] ++ #[.pointer (some ⟨g, 0, none⟩)])) w fun e w' => e = .returned (.int .i64 (marginV vs y0 y1 - marginV vs x0 x1)) ∧ Ext w w' := by
  subst hnx
  subst hny
  obtain ⟨bx, ox, rfl, c0, c1⟩ := hX.two
  obtain ⟨b2, o2, rfl, d0, d1⟩ := hY.two
  have b1 : 0 ≤ pairV vs x0 x1 ∧ pairV vs x0 x1 ≤ 24000 := sumV_bd' hS
  have b2' : 0 ≤ pairV vs x1 x0 ∧ pairV vs x1 x0 ≤ 24000 := sumV_bd' hS
  have b3 : 0 ≤ pairV vs y0 y1 ∧ pairV vs y0 y1 ≤ 24000 := sumV_bd' hS
  have b4 : 0 ≤ pairV vs y1 y0 ∧ pairV vs y1 y0 ≤ 24000 := sumV_bd' hS
  have y2 : IntKind.i64.wrap (marginV vs y0 y1 - marginV vs x0 x1) = marginV vs y0 y1 - marginV vs x0 x1 := IntWalk.i64_in _ (by unfold marginV; omega)
  have HS := hide hS
  clear hS b1 b2' b3 b4 hX hY
  show Calls Tryz.prog 152 #[.slice (some ⟨bx, ox, none⟩) 2 cx, .slice (some ⟨b2, o2, none⟩) 2 cy, .pointer (some ⟨g, 0, none⟩)] w _
  go_enter Tryz.func152, Tryz.ntmps152
  go_wp2
  refine wp_region_X (by kernel_rfl) (by kernel_rfl) ?_
  repeat' (refine wpX_stepQ (fun K hK => ?_)
           go_simp
           try (rw [if_neg (by intro h; simp [undef] at h)])
           try split
           all_goals
             first
             | (refine hK _ ?_
                clear hK K)
             | (apply Exists.intro
                refine ⟨fun wq hwq => ?_, hK _ ?_⟩
                · have hcq := hwq.cellS
                  go_simp
                  first
                  | exact ⟨Ext.refl _, rfl⟩
                  | exact ⟨Ext.refl _, margin_impl _ _ _ _ _ _ _ (hR.ext (by repeat (first | exact Ext.refl _ | assumption | refine Ext.alloc ?_ _ | refine Ext.drew ?_ | refine Ext.trans ?_ (by assumption)))) HS.out⟩
                clear hK K))
  refine wpX_nil (fun wz hwz => ?_)
  go_wp2
  go_ret
  exact ⟨rfl, hwz⟩

set_option maxRecDepth 100000 in
set_option maxHeartbeats 1000000 in
theorem insR_none (w : World) (K : Nat) (fst cap : Array Value) :
    Calls Tryz.prog 192 #[.slice none 0 0, .int .i64 0, .int .i64 0, .func (.func K) fst cap] w fun e w' => e = .returned (.tuple #[]) ∧ Ext w w' := by
  go_enter Tryz.func192, Tryz.ntmps192
  go_wp2_with fail
  go_loopw [8, 9] (fun i _ wr => i = .int .i64 1 ∧ Ext w wr) (fun _ _ _ => 0)
  case atStart => exact ⟨rfl, Ext.refl _⟩
  case round =>
    obtain ⟨rfl, hwr⟩ := hrel
    go_wp2
    go_end0
    exact ⟨rfl, hwr⟩

set_option maxRecDepth 100000 in
set_option maxHeartbeats 1000000 in
theorem stbR_none (w : World) (K : Nat) (fst cap : Array Value) :
    Calls Tryz.prog 170 #[.slice none 0 0, .int .i64 0, .func (.func K) fst cap] w fun e w' => e = .returned (.tuple #[]) ∧ Ext w w' := by
  go_enter Tryz.func170, Tryz.ntmps170
  go_wp2_with fail
  go_loopw [7, 8] (fun a b wr => a = .int .i64 0 ∧ b = .int .i64 20 ∧ Ext w wr) (fun _ _ _ => 0)
  case atStart => exact ⟨rfl, rfl, Ext.refl _⟩
  case round =>
    obtain ⟨rfl, rfl, hwr⟩ := hrel
    go_wp2_with fail
    refine (insR_none _ K fst cap).mono ?_
    rintro e w1 ⟨rfl, hw1⟩
    have hE := hwr.trans hw1
    clear hwr hw1
    go_wp2_with fail
    go_loopw [6, 7, 8, 9] (fun s _ _ _ wq => s = .int .i64 20 ∧ Ext w wq) (fun _ _ _ _ _ => 0)
    case atStart => exact ⟨rfl, hE⟩
    case round =>
      clear hE
      obtain ⟨rfl, hwr⟩ := hrel
      go_wp2
      go_end0
      exact ⟨rfl, hwr⟩

set_option maxRecDepth 100000 in
set_option maxHeartbeats 1000000 in
theorem stabR_none (w : World) (K : Nat) (fst cap : Array Value) :
    Calls Tryz.prog 151 #[.slice none 0 0, .func (.func K) fst cap] w fun e w' => e = .returned (.tuple #[]) ∧ Ext w w' := by
  go_enter Tryz.func151, Tryz.ntmps151
  go_wp2_with fail
  refine (stbR_none _ K fst cap).mono ?_
  rintro e w1 ⟨rfl, hw1⟩
  go_wp2
  go_end0
  exact ⟨rfl, hw1⟩

set_option maxRecDepth 100000 in
set_option maxHeartbeats 8000000 in
theorem lokPairs_impl (w : World) (n : Nat) (a : Option Addr) (c : Nat) (vs : List Vt) (hR : RdV w a vs) (h0 : profOk n vs = true) (n2 : n ≤ 5) :
    Calls Tryz.prog 105 #[.agg #[.int .i64 n, .slice a vs.length c]] w fun e w' => ∃ v, e = .returned v ∧ OwnSS w' w.heap.size v (lokO n vs) ∧ Ext w w' := by
  have q0 := new0 w (.int .i64 n) [.slice a vs.length c] 29
  have q1 := new1 w (.int .i64 n) (.slice a vs.length c) [] 29
  have HS := hide (prof_small h0)
  have HL0 : Hid (lokO n vs = lockL (srtP n vs)) := hide (by simp [lokO, h0])
  have hnn : n * n ≤ 5 * 5 := Nat.mul_le_mul n2 n2
  go_enter Tryz.func105, Tryz.ntmps105
  go_wp2_with (go_at_call 36; refine (prof_impl _ _ _ _ _ (hR.ext (by repeat (first | exact Ext.refl _ | assumption | refine Ext.alloc ?_ _ | refine Ext.drew ?_ | refine Ext.trans ?_ (by assumption))))).mono ?_; rintro e w1 ⟨rfl, hw1⟩; have q0 := Ext.keep (w' := w1) (by repeat (first | exact Ext.refl _ | assumption | refine Ext.alloc ?_ _ | refine Ext.drew ?_ | refine Ext.trans ?_ (by assumption))) q0; have q1 := Ext.keep (w' := w1) (by repeat (first | exact Ext.refl _ | assumption | refine Ext.alloc ?_ _ | refine Ext.drew ?_ | refine Ext.trans ?_ (by assumption))) q1)
  have hw : Ext w w1 := (by repeat (first | exact Ext.refl _ | assumption | refine Ext.alloc ?_ _ | refine Ext.drew ?_ | refine Ext.trans ?_ (by assumption)))
  have hlow : w.heap.size < w1.heap.size := World.block_lt_of_cell? w1 _ q0
  obtain ⟨wb, hwb⟩ : ∃ wb : World, wb = w1 := ⟨_, rfl⟩
  subst hwb
  have hRb := hR.ext hw
  clear hw1
  go_loopw [3, 4, 5, 14, 18, 19] (fun v _ _ i _ _ wr => ∃ (j : Nat) (es : List RowE), j ≤ n ∧ i = .int .i64 j ∧ LstE wr wb.heap.size v es ∧ Hid (es.map RowE.xs = prAll n vs j) ∧ Ext wb wr) (fun _ _ _ i _ _ _ => n - (intOf i).toNat)
  case atStart => exact ⟨0, [], Nat.zero_le _, rfl, LstE.nil _ _, rfl, Ext.refl _⟩
  case round =>
    obtain ⟨j, es, hj, rfl, hown, hmap, hwr⟩ := hrel
    have r0 := hwr.keep q0
    have r1 := hwr.keep q1
    by_cases hjt : j < n
    · have hjn : j * n ≤ 4 * n := Nat.mul_le_mul_right _ (by omega)
      have HM0 : Hid (es.map RowE.xs = prAll n vs j ++ prRow vs j 0) := hide (by rw [hmap.out]; simp [prRow])
      go_wp2
      go_loopw [3, 5, 19] (fun v _ i wr => ∃ (k : Nat) (es : List RowE), k ≤ n ∧ i = .int .i64 k ∧ LstE wr wb.heap.size v es ∧ Hid (es.map RowE.xs = prAll n vs j ++ prRow vs j k) ∧ Ext wb wr) (fun _ _ i _ => n - (intOf i).toNat)
      case atStart => exact ⟨0, es, Nat.zero_le _, rfl, hown, HM0, hwr⟩
      case round =>
        clear hown hmap hwr r0 r1 HM0 es
        obtain ⟨k, es, hk, rfl, hown, hmap, hwr⟩ := hrel
        have r0 := hwr.keep q0
        have r1 := hwr.keep q1
        have hRr := hRb.ext hwr
        have hel : es.length ≤ 100 := by
          have h1 := prAll_len n vs j
          have h2 := prRow_len vs j k
          have h3 := congrArg List.length hmap.out
          rw [List.length_map, List.length_append] at h3
          omega
        by_cases hkt : k < n
        · have HO := hide hown
          clear hown
          cases hb : beatsV vs j k
          · go_wp2_with (go_at_call 93; refine (beats_impl _ _ _ _ _ _ _ (hRr.ext (by repeat (first | exact Ext.refl _ | assumption | refine Ext.alloc ?_ _ | refine Ext.drew ?_ | refine Ext.trans ?_ (by assumption)))) HS.out).mono ?_; rintro e w1 ⟨rfl, hw1⟩)
            exact ⟨⟨k + 1, es, by omega, by go_num, HO.out.ext hw1, hide (by rw [hmap.out]; simp [prRow, hb]), hwr.trans hw1⟩, by simp [intOf]; omega⟩
          · go_wp2_with (first
              | (go_at_call 93; refine (beats_impl _ _ _ _ _ _ _ (hRr.ext (by repeat (first | exact Ext.refl _ | assumption | refine Ext.alloc ?_ _ | refine Ext.drew ?_ | refine Ext.trans ?_ (by assumption)))) HS.out).mono ?_; rintro e w1 ⟨rfl, hw1⟩)
              | (at_builtin; go_loud (refine wpList_pushE wb wr _ rfl (.tmp 26) (.tmp 30) rfl _ es ⟨some ⟨w1.heap.size, 0, none⟩, 2, 2, [(j : Int), (k : Int)]⟩ rfl (by exact HO.out) hwr (hw1.alloc _) (by exact (OwnI.lit2 w1 j k).base hw1.size) (w1.heap.size + 1) (by simp) rfl (by omega) ?_); intro v' w4 hown4 hw4))
            exact ⟨⟨k + 1, _, by omega, by go_num, hown4, hide (by rw [List.map_append, hmap.out]; simp [prRow, hb]), hw4⟩, by simp [intOf]; omega⟩
        · have hkn : k = n := by omega
          have HM1 : Hid (es.map RowE.xs = prAll n vs (j + 1)) := hide (by rw [hmap.out, hkn]; simp [prAll])
          go_wp2
          exact ⟨⟨j + 1, es, by omega, by go_num, hown, HM1, hwr⟩, by simp [intOf]; omega⟩
    · have hjn : j = n := by omega
      have HM1 : Hid (es.map RowE.xs = prAll n vs n) := hide (by rw [hmap.out, hjn])
      have HP : Hid (∀ e ∈ es, ∃ x y : Int, e.xs = [x, y]) := fun e he => by
        have h1 : e.xs ∈ es.map RowE.xs := List.mem_map_of_mem he
        rw [HM1.out] at h1
        obtain ⟨x, y, _, _, h2⟩ := (prAll_mem n (Nat.le_refl _) _ h1).1
        exact ⟨x, y, h2⟩
      have hel : es.length ≤ 10 := by
        have h1 := prAll_ten n2 vs
        rw [← HM1.out, List.length_map] at h1
        exact h1
      clear hmap hjn
      have hlw : w.heap.size < wr.heap.size := Nat.lt_of_lt_of_le hlow hwr.size
      have hwwr := hw.trans hwr
      obtain ⟨hrows, hent⟩ := hown
      obtain ⟨K, hK⟩ : ∃ K : RowE → Int, K = fun e => margP vs e.xs := ⟨_, rfl⟩
      have hmS : (sortD K es).map RowE.xs = srtP n vs := by rw [hK, sortD_map RowE.xs (margP vs) es, HM1.out]; rfl
      have HMS := hide hmS
      have HPM : Hid ((sortD K es).Perm es) := sortD_perm K es
      have HSL : Hid ((sortD K es).length = es.length) := sortD_len K es
      have hes0 := hent
      have HENT := hide hes0
      clear hmS hes0
      -- what stands after the sort
      have HSO : Hid (∀ v, RowsE wr wb.heap.size v es → Calls Tryz.prog 151 #[v, .func (.func 152) #[] #[.pointer (some ⟨w.heap.size, 0, none⟩)]] wr fun e w' => e = .returned (.tuple #[]) ∧
          Ext wb w' ∧ EntE w' wb.heap.size (sortD K es) ∧ ∃ a' c', v = .slice a' es.length c' ∧ RdE w' a' (sortD K es)) := fun v hv => by
        rcases hv.two with ⟨rfl, he⟩ | ⟨g, cc, rfl, hcc, hg, hB⟩
        · refine (stabR_none wr 152 #[] #[.pointer (some ⟨w.heap.size, 0, none⟩)]).mono ?_
          rintro e w' ⟨rfl, hw'⟩
          subst he
          exact ⟨rfl, hwr.trans hw', EntE.nil _ _, none, 0, rfl, RdE.nil _ _⟩
        · refine (stabR_impl 152 #[] #[.pointer (some ⟨w.heap.size, 0, none⟩)] K (fun x y => margP vs y.xs - margP vs x.xs) wr g es.length cc es rfl (by omega) hB Tryz.call152
            (fun x y => by rw [hK]; show margP vs y.xs - margP vs x.xs < 0 ↔ margP vs y.xs < margP vs x.xs; omega)
            (fun x y w' hx hy hO => by
              have hxw := (HENT.out.only hO (fun e he => by
                rcases rows_ne hv HENT.out e he with h | h
                · rw [h]; simp
                · exact h))
              have e1 := hxw.rd hx
              have e2 := hxw.rd hy
              obtain ⟨x0, x1, hx1⟩ := HP.out x hx
              obtain ⟨y0, y1, hy1⟩ := HP.out y hy
              rw [hx1] at e1
              rw [hy1] at e2
              rw [hx1, hy1]
              exact lokOne w' w.heap.size n a c vs x.a y.a x.n y.n x.c y.c x0 x1 y0 y1 (hO.keep (by show w.heap.size ≠ g; omega) r0) (hO.keep (by show w.heap.size ≠ g; omega) r1) (hR.ext (Only.ext hwwr hO (by omega))) HS.out e1.2 e2.2 e1.1 e2.1)).mono ?_
          rintro e w' ⟨rfl, hB2, hO⟩
          refine ⟨rfl, Only.ext hwr hO hg, ((HENT.out.only hO (fun e he => by
                rcases rows_ne hv HENT.out e he with h | h
                · rw [h]; simp
                · exact h)).perm HPM.out), some ⟨g, 0, none⟩, cc, rfl, fun hne => ⟨g, 0, rfl, fun j e he => ?_⟩⟩
          rw [Nat.zero_add, hB2.cell j (by have := lt_of_at he; rw [HSL.out] at this; exact this), memF_at he]
      have hSO := HSO.out _ hrows
      have HS2 := hide hSO
      clear HSO hSO hrows hent HENT r0 r1 hwwr hlw
      go_wp2_with fail
      refine HS2.out.mono ?_
      rintro e w2 ⟨rfl, hw2, hent, a', c', rfl, hRE⟩
      rw [← HSL.out]
      have HSN : Hid ((sortD K es).length ≤ 25) := hide (by rw [HSL.out]; omega)
      generalize sortD K es = ES at hent hRE HMS HSN ⊢
      have HPE : Hid (∀ e ∈ ES, ∃ x y : Int, e.xs = [x, y]) := fun e he => by
        have h1 : e.xs ∈ ES.map RowE.xs := List.mem_map_of_mem he
        rw [HMS.out] at h1
        obtain ⟨x, y, _, _, h2⟩ := (srtP_mem h1).1
        exact ⟨x, y, h2⟩
      have HML : Hid ((ES.map RowE.xs).length = ES.length) := List.length_map _
      have HR : Hid (∀ k, k ≤ ES.length → Ranked (lockL ((ES.map RowE.xs).take k))) := fun k hk => lockL_ranked _ k (by rw [HML.out]; exact hk)
      have HE := hide hent
      have hE9 := hRE
      have HRE := hide hE9
      clear hent hRE hE9 HS2 HSL HPM hK HM1 HP hel hwr hj
      obtain ⟨wc, hwc⟩ : ∃ wc : World, wc = w2 := ⟨_, rfl⟩
      subst hwc
      go_wp2_with fail
      go_loopw [6, 8, 39] (fun v _ i wr => ∃ (k : Nat) (ks : List RowE), k ≤ ES.length ∧ i = .int .i64 k ∧ RowsE wr wc.heap.size v ks ∧ Hid (ks.Sublist (ES.take k)) ∧ Hid (ks.map RowE.xs = lockL ((ES.map RowE.xs).take k)) ∧ Ext wc wr) (fun _ _ i _ => ES.length - (intOf i).toNat)
      case atStart => exact ⟨0, [], Nat.zero_le _, rfl, RowsE.nil _ _, hide (by simp), hide (by simp [lockL]), Ext.refl _⟩
      case round =>
        obtain ⟨k, ks, hk, rfl, hrows, hsub, hmap, hwr⟩ := hrel
        have hSN := HSN.out
        by_cases hkt : k < ES.length
        · obtain ⟨e, he⟩ := at_of_lt hkt
          have hem := List.mem_of_getElem? he
          have hEr := HE.out.ext hwr
          obtain ⟨b, off, rfl, hcell⟩ := HRE.out (ne_of_at he)
          have d0 := hwr.keep (hcell k e he)
          obtain ⟨x, y, hxy⟩ := HPE.out e hem
          have hRx := (hEr.rd hem).1
          have hnx := (hEr.rd hem).2
          rw [hxy] at hRx hnx
          have hat : (ES.map RowE.xs)[k]? = some [x, y] := by rw [List.getElem?_map, he, Option.map_some, hxy]
          have HLK := hide (lockL_at hat)
          have hTK : ES.take (k + 1) = ES.take k ++ [e] := take_at he
          have HTK := hide hTK
          have hkl : ks.length ≤ 25 := by
            have h1 := hsub.out.length_le
            rw [List.length_take] at h1
            omega
          have hOS := RowsE.own (hrows.base hw2.size) (hEr.sub (hsub.out.trans (List.take_sublist k ES)))
          obtain ⟨ak, ck, rfl, hck, hju⟩ := (show ∃ ak ck, _ = Value.slice ak ks.length ck ∧ ks.length ≤ ck ∧ True by
            obtain ⟨a1, c1, h1, h2, _⟩ := hrows.val
            exact ⟨a1, c1, h1, h2, trivial⟩)
          have hRd := hOS.wr.rd
          rw [hmap.out] at hRd
          have hkn : (lockL ((ES.map RowE.xs).take k)).length = ks.length := by rw [← hmap.out, List.length_map]
          obtain ⟨r, hr⟩ := HR.out k hk
          have hpr : ∀ x ∈ lockL ((ES.map RowE.xs).take k), ∃ y z : Int, x = [y, z] := fun x hx => by
            rw [← hmap.out] at hx
            obtain ⟨e', he', rfl⟩ := List.mem_map.1 hx
            exact HPE.out e' (List.mem_of_mem_take (hsub.out.subset he'))
          have hcall := fun w' (hw' : Ext wr w') => leads_impl (lockL ((ES.map RowE.xs).take k)) r hr hpr (by rw [hkn]; omega) x (r y + 1) y w' _ ak ck (Nat.lt_succ_self _) (by rw [hkn]; exact hRd.ext hw')
          rw [hkn] at hcall
          have HC := hide hcall
          have hw0 : p1 [x, y] = y := rfl
          have hw1 : p0 [x, y] = x := rfl
          unfold lockS at HLK
          rw [hw0, hw1] at HLK
          clear hcall hRd hju hr hpr hkn hOS hat hTK hw0 hw1
          obtain ⟨b1, o1, hb1, d1, d2⟩ := hRx.two
          rw [rowV, hb1, hnx] at d0
          have HRW := hide hrows
          clear hrows
          cases hq : wayB (lockL ((ES.map RowE.xs).take k)) y x
          · rw [hq, if_neg (by decide)] at HLK
            rw [hq] at HC
            go_wp2
            refine wp_region_X (by kernel_rfl) (by kernel_rfl) ?_
            repeat' (refine wpX_stepQ (fun K hK => ?_)
                     go_simp
                     try (rw [if_neg (by intro h; simp [undef] at h)])
                     try split
                     all_goals
                       first
                       | (refine hK _ ?_
                          clear hK K)
                       | (apply Exists.intro
                          refine ⟨fun wq hwq => ?_, hK _ ?_⟩
                          · have hcq := hwq.cellS
                            go_simp
                            first
                            | exact ⟨Ext.refl _, rfl⟩
                            | exact ⟨Ext.refl _, HC.out _ (by repeat (first | exact Ext.refl _ | assumption | refine Ext.alloc ?_ _ | refine Ext.drew ?_ | refine Ext.trans ?_ (by assumption)))⟩
                          clear hK K))
            refine wpX_nil (fun wz hwz => ?_)
            have hbx := RdE.box wz e
            unfold rowV at hbx
            rw [hb1, hnx] at hbx
            have hE5 := hwz.alloc (.cells #[.slice (some ⟨b1, o1, none⟩) 2 e.c] 36)
            have hrz := HRW.out.ext hE5
            have hwz5 := hwr.trans hE5
            go_wp2_with (at_builtin; go_loud (refine wpList_appE wc.heap.size _ rfl (.tmp 52) (.tmp 54) rfl _ ks [e] rfl (by exact hrz) hwz5.size _ _ _ rfl rfl hbx (by simp; omega) ?_); intro v' w4 h4 hg4 _)
            have hE6 : Ext wc w4 := Ext.grown hwz5 hg4 (ownsRow_block hrz)
            exact ⟨⟨k + 1, ks ++ [e], by omega, by go_num, h4, hide (by rw [HTK.out]; exact hsub.out.append (List.Sublist.refl _)), hide (by rw [HLK.out, List.map_append, hmap.out]; simp [hxy]), hE6⟩, by simp [intOf]; omega⟩
          · rw [hq, if_pos rfl] at HLK
            rw [hq] at HC
            go_wp2
            refine wp_region_X (by kernel_rfl) (by kernel_rfl) ?_
            repeat' (refine wpX_stepQ (fun K hK => ?_)
                     go_simp
                     try (rw [if_neg (by intro h; simp [undef] at h)])
                     try split
                     all_goals
                       first
                       | (refine hK _ ?_
                          clear hK K)
                       | (apply Exists.intro
                          refine ⟨fun wq hwq => ?_, hK _ ?_⟩
                          · have hcq := hwq.cellS
                            go_simp
                            first
                            | exact ⟨Ext.refl _, rfl⟩
                            | exact ⟨Ext.refl _, HC.out _ (by repeat (first | exact Ext.refl _ | assumption | refine Ext.alloc ?_ _ | refine Ext.drew ?_ | refine Ext.trans ?_ (by assumption)))⟩
                          clear hK K))
            refine wpX_nil (fun wz hwz => ?_)
            go_wp2
            exact ⟨⟨k + 1, ks, by omega, by go_num, HRW.out.ext hwz, hide (by rw [HTK.out]; exact hsub.out.trans (List.sublist_append_left _ _)), hide (by rw [HLK.out, hmap.out]), hwr.trans hwz⟩, by simp [intOf]; omega⟩
        · have hkn : k = ES.length := by omega
          have HF : Hid (ks.map RowE.xs = lokO n vs) := hide (by rw [hmap.out, HL0.out, ← HMS.out, hkn, List.take_of_length_le (by rw [HML.out]; exact Nat.le_refl _)])
          have hOS := RowsE.own (hrows.base hw2.size) ((HE.out.ext hwr).sub (hsub.out.trans (List.take_sublist k ES)))
          rw [HF.out] at hOS
          go_wp2
          go_ret
          exact ⟨_, rfl, hOS.base hw.size, hw.trans (hw2.trans hwr)⟩

set_option maxRecDepth 100000 in
set_option maxHeartbeats 1000000 in
theorem lok_impl (w : World) (sz : Int) (a : Option Addr) (c : Nat) (vs : List Vt) (hR : RdV w a vs) :
    Calls Tryz.prog 105 #[.agg #[.int .i64 sz, .slice a vs.length c]] w fun e w' => ∃ v, e = .returned v ∧ OwnSS w' w.heap.size v (lokO sz vs) ∧ Ext w w' := by
  have q0 := new0 w (.int .i64 sz) [.slice a vs.length c] 29
  have q1 := new1 w (.int .i64 sz) (.slice a vs.length c) [] 29
  cases h0 : profOk sz vs
  · go_enter Tryz.func105, Tryz.ntmps105
    go_wp2_with (go_at_call 36; refine (prof_impl _ _ _ _ _ (hR.ext (by repeat (first | exact Ext.refl _ | assumption | refine Ext.alloc ?_ _ | refine Ext.drew ?_ | refine Ext.trans ?_ (by assumption))))).mono ?_; rintro e w1 ⟨rfl, hw1⟩; have q0 := Ext.keep (w' := w1) (by repeat (first | exact Ext.refl _ | assumption | refine Ext.alloc ?_ _ | refine Ext.drew ?_ | refine Ext.trans ?_ (by assumption))) q0; have q1 := Ext.keep (w' := w1) (by repeat (first | exact Ext.refl _ | assumption | refine Ext.alloc ?_ _ | refine Ext.drew ?_ | refine Ext.trans ?_ (by assumption))) q1)
    go_ret
    exact ⟨_, rfl, by simp [lokO, h0]; exact OwnSS.nil _ _, (by repeat (first | exact Ext.refl _ | assumption | refine Ext.alloc ?_ _ | refine Ext.drew ?_ | refine Ext.trans ?_ (by assumption)))⟩
  obtain ⟨n, rfl, n1, n2⟩ := prof_nat h0
  exact lokPairs_impl w n a c vs hR h0 n2

end Go.Proofs.YtilcdnkkabmbfaaGreat
